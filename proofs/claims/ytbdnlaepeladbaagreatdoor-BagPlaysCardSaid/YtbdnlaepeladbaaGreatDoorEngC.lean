/- A machine that runs closed code, part 3 of 4: operations whose order is open, calls. Conditions: none. -/
import Derived.Test.YtbdnlaepeladbaaGreatDoorEngB
import Derived.Orders
import Derived.Scope
namespace Go.Eng
open Go.RowKit

variable {P : Program} {K : Fix} {E F : Env} {S S' : St} {X : List (List Value)} {w w' : World} {a b v : AVal} {x y : Value} {t s : TypeId} {l r : List AVal} {xs : List Value} {i j n off f : Nat}

def acopy (P : Program) (S : St) (ats : List TypeId) (d u : AVal) : Option (AVal × St) :=
  match ats with
  | t :: _ =>
    match P.underlying t with
    | some (.slice e) =>
      match P.info? e with
      | some inf =>
        match asrc S inf.size u with
        | some (m, cs) =>
          match d with
          | .slice b off len _ _ => match astores S b off (cs.take (Nat.min m len * inf.size)) with
            | some S' => some (.lit (goInt (Nat.min m len)), S')
            | none => none
          | .lit (.slice none 0 _) => some (.lit (goInt 0), S)
          | _ => none
        | none => none
      | none => none
    | _ => none
  | _ => none

theorem acopy_sound {ats : Array TypeId} {ty : TypeId} {d u : AVal} {p : Value} (h : Ok K E S X w) (hd : VR E d p) (hu : VR E u x) (hv : acopy P S ats.toList d u = some (v, S')) :
    ∃ y w', (Builtin.copy_ ats ty #[p, x]).run P w = .ok y w' ∧ VR E v y ∧ Ok K E S' X w' := by
  unfold acopy at hv
  split at hv
  · rename_i t rest hats
    have h0 : ats[0]? = some t := by rw [← Array.getElem?_toList, hats]; rfl
    split at hv
    · rename_i e hut
      split at hv
      · rename_i inf hi
        split at hv
        · rename_i m cs hcs
          obtain ⟨vs, rvs, hl0, hn0, hlen⟩ := asrc_sound (P := P) h hu hcs
          have hlw : (Builtin.lenOf x).run P w = .ok m w := hl0 w.drawn
          have hsz : (sizeOf e).run P w = .ok inf.size w := run_sizeOf' hi
          split at hv
          · rename_i b off len q c
            simp only [VR] at hd; obtain ⟨dd, cap, hdd, hcap, rfl⟩ := hd
            have hnw : (Builtin.firstCells inf.size (Nat.min m len) x).run P w = .ok (vs.take (Nat.min m len * inf.size)).toArray w := hn0 w.drawn _ (Nat.min_le_left _ _)
            split at hv
            · rename_i S1 hst
              simp only [Option.some.injEq, Prod.mk.injEq] at hv; obtain ⟨rfl, rfl⟩ := hv
              obtain ⟨w', g1, g2⟩ := astores_sound (P := P) (off := off) (i := 0) h hdd (rvs.take (Nat.min m len * inf.size)) (by simpa using hst)
              refine ⟨goInt (Nat.min m len), w', ?_, by simp only [VR], g2⟩
              simp only [Builtin.copy_, h0, List.getElem?_toArray, List.getElem?_cons_zero, List.getElem?_cons_succ, Sem.run_bind, run_underlying' hut, Result.andThen_ok, hlw, hsz, hnw, g1, Sem.run_pure]
            · simp at hv
          · simp only [VR] at hd; subst hd
            simp only [Option.some.injEq, Prod.mk.injEq] at hv; obtain ⟨rfl, rfl⟩ := hv
            have hnw : (Builtin.firstCells inf.size (Nat.min m 0) x).run P w = .ok (vs.take (Nat.min m 0 * inf.size)).toArray w := hn0 w.drawn _ (Nat.min_le_left _ _)
            refine ⟨goInt 0, w, ?_, by simp only [VR], h⟩
            simp only [Builtin.copy_, h0, List.getElem?_toArray, List.getElem?_cons_zero, List.getElem?_cons_succ, Sem.run_bind, run_underlying' hut, Result.andThen_ok, hlw, hsz, hnw, Sem.run_pure]
            simp
          · simp at hv
        · simp at hv
      · simp at hv
    · simp at hv
  · simp at hv

def aclear (P : Program) (S : St) (ats : List TypeId) (d : AVal) : Option St :=
  match ats with
  | t :: _ =>
    match P.underlying t, d with
    | some _, .lit (.slice none _ _) => some S
    | some _, .lit (.map none) => some S
    | some _, .slice _ _ 0 _ _ => some S
    | some (.slice e), .slice b off len _ _ =>
      match still P (zeroValue e) with
      | some z => astores S b off ((Builtin.zeroCells z.cells len).toList.map .lit)
      | none => none
    | some _, .map m =>
      match S.heap[m]? with
      | some (.map _ clock) => some { S with heap := S.heap.set m (.map [] clock) }
      | _ => none
    | _, _ => none
  | _ => none

theorem aclear_sound {ats : Array TypeId} {ty : TypeId} {d : AVal} {p : Value} (h : Ok K E S X w) (hd : VR E d p) (hv : aclear P S ats.toList d = some S') :
    ∃ w', (Builtin.clear_ ats ty #[p]).run P w = .ok (.tuple #[]) w' ∧ Ok K E S' X w' := by
  unfold aclear at hv
  split at hv
  · rename_i t rest hats
    have h0 : ats[0]? = some t := by rw [← Array.getElem?_toList, hats]; rfl
    split at hv
    · rename_i dd c k hut
      simp only [VR] at hd; subst hd
      simp only [Option.some.injEq] at hv; subst hv
      exact ⟨w, by simp [Builtin.clear_, h0, run_underlying' hut], h⟩
    · rename_i dd hut
      simp only [VR] at hd; subst hd
      simp only [Option.some.injEq] at hv; subst hv
      exact ⟨w, by simp [Builtin.clear_, h0, run_underlying' hut], h⟩
    · rename_i dd b off q c hut
      simp only [VR] at hd; obtain ⟨e, cap, he, hcap, rfl⟩ := hd
      simp only [Option.some.injEq] at hv; subst hv
      exact ⟨w, by simp [Builtin.clear_, h0, run_underlying' hut], h⟩
    · rename_i e b off len q c hne hut
      simp only [VR] at hd; obtain ⟨dd, cap, hdd, hcap, rfl⟩ := hd
      split at hv
      · rename_i z hz
        obtain ⟨w', g1, g2⟩ := astores_sound (P := P) (off := off) (i := 0) h hdd (VRs.lits _) (by simpa using hv)
        refine ⟨w', ?_, g2⟩
        cases len with
        | zero => exact absurd rfl hne
        | succ len =>
          simp [Builtin.clear_, h0, run_underlying' hut, still_run hz]
          rw [g1]; rfl
      · simp at hv
    · rename_i dd m hut
      simp only [VR] at hd; obtain ⟨c, hc, rfl⟩ := hd
      split at hv
      · rename_i es clock ho
        simp only [Option.some.injEq] at hv; subst hv
        obtain ⟨ms, g1, g2⟩ := h.mapAt hc ho
        refine ⟨_, ?_, h.put (o := .map [] clock) (u := .map #[] clock) hc ⟨[], by simp only [ER], rfl⟩⟩
        simp [Builtin.clear_, h0, run_underlying' hut, run_getObj_map g2, run_setObj_map g2]
      · simp at hv
    · simp at hv
  · simp at hv

end Go.Eng

namespace Go.Eng
open Go.RowKit

variable {P : Program} {K : Fix} {E F : Env} {S S' : St} {X : List (List Value)} {w w' : World} {a b v : AVal} {x y : Value} {t s : TypeId} {l r : List AVal} {xs : List Value} {i j n off f : Nat}

def arange (P : Program) (S : St) (t : TypeId) (a : AVal) : Option (AVal × St) :=
  match P.underlying t, a with
  | some .string, .lit (.string s) => some (.ptr S.heap.length 0, anew S (.raw (.stringIter s 0)))
  | some (.map _ _), .lit (.map none) => some (.ptr S.heap.length 0, anew S (.iter none 0 [] 0))
  | some (.map _ _), .map m =>
    match S.heap[m]? with
    | some (.map _ clock) => some (.ptr S.heap.length 0, anew S (.iter (some m) clock [] clock))
    | _ => none
  | _, _ => none

theorem arange_sound (h : Ok K E S X w) (ha : VR E a x) (hv : arange P S t a = some (v, S')) :
    ∃ y w' E', (Instr.range t x).run P w = .ok y w' ∧ VR E' v y ∧ Ok K E' S' X w' ∧ E.Le E' := by
  unfold arange at hv
  split at hv
  · rename_i st hu
    simp only [VR] at ha; subst ha
    simp only [Option.some.injEq, Prod.mk.injEq] at hv; obtain ⟨rfl, rfl⟩ := hv
    obtain ⟨E', w', g1, g2, g3, g4⟩ := anew_sound (P := P) (o := .raw (.stringIter st 0)) (u := .stringIter st 0) h rfl
    exact ⟨.pointer (some ⟨w.heap.size, 0, none⟩), w', E', by simp [Instr.range, run_underlying' hu]; exact (Result.ok.inj g1).2, by simp only [VR]; exact ⟨_, g3, rfl⟩, g4, g2⟩
  · rename_i hu
    simp only [VR] at ha; subst ha
    simp only [Option.some.injEq, Prod.mk.injEq] at hv; obtain ⟨rfl, rfl⟩ := hv
    obtain ⟨E', w', g1, g2, g3, g4⟩ := anew_sound (P := P) (o := .iter none 0 [] 0) (u := .mapIter none 0 #[] 0) h ⟨none, rfl, rfl⟩
    exact ⟨.pointer (some ⟨w.heap.size, 0, none⟩), w', E', by simp [Instr.range, run_underlying' hu]; exact (Result.ok.inj g1).2, by simp only [VR]; exact ⟨_, g3, rfl⟩, g4, g2⟩
  · rename_i m hu
    simp only [VR] at ha; obtain ⟨c, hc, rfl⟩ := ha
    split at hv
    · rename_i es clock ho
      obtain ⟨ms, k1, k2⟩ := h.mapAt hc ho
      simp only [Option.some.injEq, Prod.mk.injEq] at hv; obtain ⟨rfl, rfl⟩ := hv
      obtain ⟨E', w', g1, g2, g3, g4⟩ := anew_sound (P := P) (o := .iter (some m) clock [] clock) (u := .mapIter (some c) clock #[] clock) h ⟨some c, ⟨c, hc, rfl⟩, rfl⟩
      exact ⟨.pointer (some ⟨w.heap.size, 0, none⟩), w', E', by simp [Instr.range, run_underlying' hu, run_getObj_map k2]; exact (Result.ok.inj g1).2, by simp only [VR]; exact ⟨_, g3, rfl⟩, g4, g2⟩
    · simp at hv
  · simp at hv

theorem run_getObj_iter {m : Nat} {c : Option Nat} {q : Nat} {u : Array Nat} {z : Nat} (h : w.heap[m]? = some (.mapIter c q u z)) : (getObj m).run P w = .ok (.mapIter c q u z) w := by
  simp [getObj, Sem.run, h]
theorem run_setObj_iter {m : Nat} {c : Option Nat} {q : Nat} {u : Array Nat} {z : Nat} {o : Obj} (h : w.heap[m]? = some (.mapIter c q u z)) : (setObj m o).run P w = .ok () { w with heap := w.heap.setIfInBounds m o } := by
  simp [setObj, Sem.run, h]
theorem run_getObj_siter {m : Nat} {s : ByteArray} {q : Nat} (h : w.heap[m]? = some (.stringIter s q)) : (getObj m).run P w = .ok (.stringIter s q) w := by
  simp [getObj, Sem.run, h]
theorem run_setObj_siter {m : Nat} {s : ByteArray} {q : Nat} {o : Obj} (h : w.heap[m]? = some (.stringIter s q)) : (setObj m o).run P w = .ok () { w with heap := w.heap.setIfInBounds m o } := by
  simp [setObj, Sem.run, h]

/-- What may come next of a map's entries. -/
def cands (es : List AEnt) (since : Nat) (seen : List Nat) : List (Option AEnt) :=
  let left := es.filter fun e => !seen.contains e.born
  let old := left.filter fun e => e.born < since
  let new := left.filter fun e => e.born ≥ since
  (if old.isEmpty then [none] else []) ++ (old ++ new).map some

theorem ER.filter {es : List AEnt} {ms : List MapEntry} {p : Nat → Bool} (h : ER E es ms) : ER E (es.filter fun e => p e.born) (ms.filter fun e => p e.born) := by
  induction es generalizing ms with
  | nil => simp only [ER] at h; subst h; simp [ER]
  | cons e es ih =>
    simp only [ER] at h; obtain ⟨m, r, h1, h2, h3, h4, rfl⟩ := h
    simp only [List.filter_cons, h3]
    split
    · simp only [ER]; exact ⟨_, _, h1, h2, h3, ih h4, rfl⟩
    · exact ih h4

theorem ER.append {es fs : List AEnt} {ms ns : List MapEntry} (h : ER E es ms) (k : ER E fs ns) : ER E (es ++ fs) (ms ++ ns) := by
  induction es generalizing ms with
  | nil => simp only [ER] at h; subst h; simpa using k
  | cons e es ih =>
    simp only [ER] at h; obtain ⟨m, r, h1, h2, h3, h4, rfl⟩ := h
    simp only [List.cons_append, ER]; exact ⟨_, _, h1, h2, h3, ih h4, rfl⟩

theorem ER.allBorn {es : List AEnt} {ms : List MapEntry} {p : Nat → Bool} (h : ER E es ms) : (ms.all fun e => p e.born) = es.all fun e => p e.born := by
  induction es generalizing ms with
  | nil => simp only [ER] at h; subst h; rfl
  | cons e es ih =>
    simp only [ER] at h; obtain ⟨m, r, h1, h2, h3, h4, rfl⟩ := h
    simp only [List.all_cons, h3, ih h4]

theorem ER.isEmptyL {es : List AEnt} {ms : List MapEntry} (h : ER E es ms) : ms.isEmpty = es.isEmpty := by
  have := h.length
  cases es <;> cases ms <;> simp_all

def ccands (ms : List MapEntry) (since : Nat) (seen : List Nat) : List (Option MapEntry) :=
  let left := ms.filter fun e => !seen.contains e.born
  let old := left.filter fun e => decide (e.born < since)
  let new := left.filter fun e => decide (e.born ≥ since)
  (if old.isEmpty then [none] else []) ++ (old ++ new).map some

theorem ccands_ne (ms : List MapEntry) (since : Nat) (seen : List Nat) : 0 < (ccands ms since seen).length := by
  simp only [ccands]
  split
  · simp
  · rename_i h
    have : (List.filter (fun e => decide (e.born < since)) (List.filter (fun e => !seen.contains e.born) ms)) ≠ [] := by simpa [List.isEmpty_iff] using h
    have := List.length_pos_iff.2 this
    simp only [List.nil_append, List.length_map, List.length_append]; omega

theorem cands_rel {es : List AEnt} {ms : List MapEntry} (h : ER E es ms) (since : Nat) (seen : List Nat) {k : Nat} {cm : Option MapEntry} (hk : (ccands ms since seen)[k]? = some cm) :
    ∃ ce, (cands es since seen)[k]? = some ce ∧ ((ce = none ∧ cm = none) ∨ ∃ e m, ce = some e ∧ cm = some m ∧ VR E e.key m.key ∧ VR E e.val m.val ∧ m.born = e.born) := by
  have hleft : ER E (es.filter fun e => !seen.contains e.born) (ms.filter fun e => !seen.contains e.born) := h.filter (p := fun b => !seen.contains b)
  have hold := hleft.filter (p := fun b => decide (b < since))
  have hnew := hleft.filter (p := fun b => decide (b ≥ since))
  have hall := hold.append hnew
  have hemp := hold.isEmptyL
  have hmap : ∀ {es : List AEnt} {ms : List MapEntry} {k : Nat} {cm : Option MapEntry}, ER E es ms → (ms.map some)[k]? = some cm → ∃ ce, (es.map some)[k]? = some ce ∧ ((ce = none ∧ cm = none) ∨ ∃ e m, ce = some e ∧ cm = some m ∧ VR E e.key m.key ∧ VR E e.val m.val ∧ m.born = e.born) := by
    intro es ms k cm h hk
    have hlt : k < es.length := by
      have := (List.getElem?_eq_some_iff.1 hk).1
      rw [h.length]; simpa using this
    obtain ⟨m, g1, g2, g3, g4⟩ := h.get (i := k) (e := es[k]) (by simp [hlt])
    refine ⟨some es[k], by simp [hlt], .inr ⟨es[k], m, rfl, ?_, g2, g3, g4⟩⟩
    rw [List.getElem?_map, g1] at hk
    simpa using hk.symm
  simp only [ccands] at hk
  simp only [cands]
  rw [hemp] at hk
  split at hk
  · rename_i he
    rw [if_pos he]
    cases k with
    | zero => simp at hk; subst hk; exact ⟨none, by simp, .inl ⟨rfl, rfl⟩⟩
    | succ k =>
      simp only [List.singleton_append, List.getElem?_cons_succ] at hk ⊢
      exact hmap hall hk
  · rename_i he
    rw [if_neg he]
    simp only [List.nil_append] at hk ⊢
    exact hmap hall hk

theorem run_mapNext {m : Nat} (hm : 0 < m) : ∃ k d, k < m ∧ (choose (.mapNext m)).run P w = .ok k { w with drawn := d } := by
  by_cases h : m ≤ 1
  · exact ⟨0, w.drawn, hm, by simp [Question.forced, h]⟩
  · exact ⟨w.tape w.drawn (.mapNext m) % m, w.drawn + 1, Nat.mod_lt _ hm, by simp [Question.forced, h, Question.cut]⟩

/-- What comes of one candidate. -/
def anext1 (S : St) (it : Nat) (m : Nat) (since : Nat) (seen : List Nat) (clock : Nat) : Option AEnt → AVal × St
  | none => (.tuple [.lit (.bool false)], S)
  | some e => (.tuple [.lit (.bool true), e.key, e.val], { S with heap := S.heap.set it (.iter (some m) since (seen ++ [e.born]) clock) })

def anext (S : St) (a : AVal) (isString : Bool) : Option (List (AVal × St)) :=
  match a with
  | .ptr it 0 =>
    match S.heap[it]? with
    | some (.raw (.stringIter s pos)) =>
      if isString = true then
        if pos < s.size then
          some [(.tuple [.lit (.bool true), .lit (goInt pos), .lit (.int .i32 (Utf8.decode s pos).1)], { S with heap := S.heap.set it (.raw (.stringIter s (pos + (Utf8.decode s pos).2))) })]
        else some [(.tuple [.lit (.bool false)], S)]
      else none
    | some (.iter none _ _ _) => if isString = true then none else some [(.tuple [.lit (.bool false)], S)]
    | some (.iter (some m) since seen last) =>
      if isString = true then none else
      match S.heap[m]? with
      | some (.map es clock) =>
        if (!seen.isEmpty && !es.isEmpty && es.all (fun e => decide (e.born ≥ last))) = true then none
        else some ((cands es since seen).map (anext1 S it m since seen clock))
      | _ => none
    | _ => none
  | _ => none

theorem tuple1 : VR E (.tuple [.lit x]) (.tuple #[x]) := by
  simp only [VR]; exact ⟨[x], VRs.cons (by simp only [VR]) VRs.nil, rfl⟩

theorem anext_sound {isString : Bool} {ty : TypeId} {outs : List (AVal × St)} (h : Ok K E S X w) (ha : VR E a x) (hv : anext S a isString = some outs) :
    ∃ v S' y w', (v, S') ∈ outs ∧ (Instr.next x isString ty).run P w = .ok y w' ∧ VR E v y ∧ Ok K E S' X w' := by
  unfold anext at hv
  split at hv
  · rename_i it
    simp only [VR] at ha; obtain ⟨c, hc, rfl⟩ := ha
    split at hv
    · rename_i st pos ho
      obtain ⟨c', u, g1, _, g3, g4⟩ := h.obj _ _ ho
      rw [hc] at g1; obtain rfl := Option.some.inj g1
      simp only [OR] at g4; subst g4
      split at hv
      · rename_i hs; subst hs
        split at hv
        · rename_i hlt
          simp only [Option.some.injEq] at hv; subst hv
          refine ⟨_, _, .tuple #[.bool true, goInt pos, .int .i32 (Utf8.decode st pos).1], _, List.mem_singleton.2 rfl, ?_, ?_, h.put (o := .raw (.stringIter st (pos + (Utf8.decode st pos).2))) (u := .stringIter st (pos + (Utf8.decode st pos).2)) hc rfl⟩
          · simp only [Instr.next, Sem.run_bind, run_getObj_siter g3, Result.andThen_ok, hlt, if_true, run_setObj_siter g3, Sem.run_pure]
          · simp only [VR]; exact ⟨_, VRs.cons (by simp only [VR]) (VRs.cons (by simp only [VR]) (VRs.cons (by simp only [VR]) VRs.nil)), rfl⟩
        · rename_i hlt
          simp only [Option.some.injEq] at hv; subst hv
          refine ⟨_, _, .tuple #[.bool false], w, List.mem_singleton.2 rfl, ?_, tuple1, h⟩
          simp only [Instr.next, Sem.run_bind, run_getObj_siter g3, Result.andThen_ok, hlt, if_false, Sem.run_pure]
      · simp at hv
    · rename_i q1 q2 q3 ho
      obtain ⟨c', u, g1, _, g3, g4⟩ := h.obj _ _ ho
      rw [hc] at g1; obtain rfl := Option.some.inj g1
      obtain ⟨cm, e1, rfl⟩ := g4
      simp only [OptB] at e1; subst e1
      split at hv
      · simp at hv
      · rename_i hs
        have hs : isString = false := by simpa using hs
        subst hs
        simp only [Option.some.injEq] at hv; subst hv
        refine ⟨_, _, .tuple #[.bool false], w, List.mem_singleton.2 rfl, ?_, tuple1, h⟩
        simp only [Instr.next, Sem.run_bind, run_getObj_iter g3, Result.andThen_ok, Sem.run_pure]
    · rename_i m since seen last ho
      obtain ⟨c', u, g1, _, g3, g4⟩ := h.obj _ _ ho
      rw [hc] at g1; obtain rfl := Option.some.inj g1
      obtain ⟨cm, e1, rfl⟩ := g4
      simp only [OptB] at e1; obtain ⟨d, hd, rfl⟩ := e1
      split at hv
      · simp at hv
      · rename_i hs
        have hs : isString = false := by simpa using hs
        subst hs
        split at hv
        · rename_i es clock hm
          obtain ⟨ms, k1, k2⟩ := h.mapAt hd hm
          split at hv
          · simp at hv
          · rename_i hgone
            simp only [Option.some.injEq] at hv; subst hv
            have hg : (!seen.toArray.isEmpty && !ms.toArray.isEmpty && ms.toArray.all (fun e => decide (e.born ≥ last))) = false := by
              have : (!seen.isEmpty && !es.isEmpty && es.all (fun e => decide (e.born ≥ last))) = false := by simpa using hgone
              rw [← this, ← k1.isEmptyL, ← k1.allBorn (p := fun b => decide (b ≥ last))]
              simp
            obtain ⟨k, dr, hk, hch⟩ := run_mapNext (P := P) (w := w) (ccands_ne ms since seen)
            obtain ⟨cm, hcm⟩ : ∃ cm, (ccands ms since seen)[k]? = some cm := ⟨_, List.getElem?_eq_getElem hk⟩
            obtain ⟨ce, hce, hrel⟩ := cands_rel k1 since seen hcm
            have hcc : ((if (((ms.toArray.filter fun e => !seen.toArray.contains e.born).filter fun e => decide (e.born < since)).isEmpty) = true then #[none] else #[]) ++
                (((ms.toArray.filter fun e => !seen.toArray.contains e.born).filter fun e => decide (e.born < since)) ++ ((ms.toArray.filter fun e => !seen.toArray.contains e.born).filter fun e => decide (e.born ≥ since))).map some : Array (Option MapEntry)) = (ccands ms since seen).toArray := by
              simp only [ccands, List.filter_toArray, List.isEmpty_toArray, List.contains_toArray]
              split <;> simp
            have hcc0 : ((if (((ms.toArray.filter (fun e => !seen.toArray.contains e.born) 0 ms.length).filter fun e => decide (e.born < since)).isEmpty) = true then #[none] else #[]) ++
                (((ms.toArray.filter (fun e => !seen.toArray.contains e.born) 0 ms.length).filter fun e => decide (e.born < since)) ++ ((ms.toArray.filter (fun e => !seen.toArray.contains e.born) 0 ms.length).filter fun e => decide (e.born ≥ since))).map some : Array (Option MapEntry)) = (ccands ms since seen).toArray := hcc
            have hmem : anext1 S it m since seen clock ce ∈ (cands es since seen).map (anext1 S it m since seen clock) := List.mem_map.2 ⟨ce, List.mem_of_getElem? hce, rfl⟩
            have hdr := h.drawn dr
            have g3' : ({ w with drawn := dr } : World).heap[c]? = some (.mapIter (some d) since seen.toArray last) := g3
            rcases hrel with ⟨rfl, rfl⟩ | ⟨e, mm, rfl, rfl, r1, r2, r3⟩
            · refine ⟨_, _, .tuple #[.bool false], { w with drawn := dr }, hmem, ?_, tuple1, hdr⟩
              simp only [Instr.next, Sem.run_bind, run_getObj_iter g3, Result.andThen_ok, run_getObj_map k2, hg, Bool.false_eq_true, if_false]
              simp only [hcc0, List.size_toArray, hch, Result.andThen_ok, List.getElem?_toArray, hcm, Sem.run_pure]
            · refine ⟨_, _, .tuple #[.bool true, mm.key, mm.val], _, hmem, ?_, ?_, hdr.put (o := .iter (some m) since (seen ++ [e.born]) clock) (u := .mapIter (some d) since (seen ++ [e.born]).toArray clock) hc ⟨some d, ⟨d, hd, rfl⟩, rfl⟩⟩
              · simp only [Instr.next, Sem.run_bind, run_getObj_iter g3, Result.andThen_ok, run_getObj_map k2, hg, Bool.false_eq_true, if_false]
                simp only [hcc0, List.size_toArray, hch, Result.andThen_ok, List.getElem?_toArray, hcm, Sem.run_bind, run_setObj_iter g3', Sem.run_pure, r3]
                simp
              · simp only [VR]; exact ⟨_, VRs.cons (by simp only [VR]) (VRs.cons r1 (VRs.cons r2 VRs.nil)), rfl⟩
        · simp at hv
    · simp at hv
  · simp at hv

end Go.Eng

namespace Go.Eng
open Go.RowKit

variable {P : Program} {K : Fix} {E F : Env} {S S' : St} {X : List (List Value)} {w w' : World} {a b v : AVal} {x y : Value} {t s : TypeId} {l r : List AVal} {xs : List Value} {i j n off f : Nat}

def abornAt : List AEnt → Nat → Nat → Option (Nat × AEnt)
  | [], _, _ => none
  | e :: es, st, i => if e.born = st then some (i, e) else abornAt es st (i + 1)

theorem abornAt_sound : ∀ {es : List AEnt} {ms : List MapEntry} {st i j : Nat} {e : AEnt}, ER E es ms → abornAt es st i = some (j, e) →
    ∃ m, ms.find? (fun e => e.born == st) = some m ∧ ms.findIdx? (fun e => (e.born : Int) == (st : Int)) = some (j - i) ∧ VR E e.key m.key ∧ VR E e.val m.val ∧ m.born = e.born ∧ i ≤ j
  | [], ms, st, i, j, e, h, hf => by simp [abornAt] at hf
  | d :: es, ms, st, i, j, e, h, hf => by
    simp only [ER] at h; obtain ⟨m, r, h1, h2, h3, h4, rfl⟩ := h
    simp only [abornAt] at hf
    split at hf
    · rename_i hb
      simp only [Option.some.injEq, Prod.mk.injEq] at hf; obtain ⟨rfl, rfl⟩ := hf
      exact ⟨m, by simp [h3, hb], by simp [List.findIdx?_cons, h3, hb], h1, h2, h3, Nat.le_refl _⟩
    · rename_i hb
      obtain ⟨m', g1, g2, g3, g4, g5, g6⟩ := abornAt_sound h4 hf
      refine ⟨m', ?_, ?_, g3, g4, g5, by omega⟩
      · have hne : (m.born == st) = false := by rw [h3]; simpa using hb
        rw [List.find?_cons, hne]; exact g1
      · have hne : ((m.born : Int) == (st : Int)) = false := by
          rw [h3, beq_eq_false_iff_ne]; exact fun hh => hb (Int.ofNat.inj hh)
        rw [List.findIdx?_cons, hne, g2]
        simp; omega

def aentry (S : St) (a : AVal) : Option AVal :=
  match a with
  | .ptr it 0 =>
    match S.heap[it]? with
    | some (.iter (some m) _ seen stepped) =>
      match seen.getLast?, S.heap[m]? with
      | some st, some (.map es clock) =>
        if clock = stepped then (abornAt es st 0).map fun p => .tuple [p.2.key, p.2.val] else none
      | _, _ => none
    | _ => none
  | _ => none

theorem aentry_sound (h : Ok K E S X w) (ha : VR E a x) (hv : aentry S a = some v) : ∃ y, (Instr.entry x).run P w = .ok y w ∧ VR E v y := by
  unfold aentry at hv
  split at hv
  · rename_i it
    simp only [VR] at ha; obtain ⟨c, hc, rfl⟩ := ha
    split at hv
    · rename_i m since seen stepped ho
      obtain ⟨c', u, g1, _, g3, g4⟩ := h.obj _ _ ho
      rw [hc] at g1; obtain rfl := Option.some.inj g1
      obtain ⟨cm, e1, rfl⟩ := g4
      simp only [OptB] at e1; obtain ⟨d, hd, rfl⟩ := e1
      split at hv
      · rename_i st es clock hst hm
        obtain ⟨ms, k1, k2⟩ := h.mapAt hd hm
        split at hv
        · rename_i hcs
          subst hcs
          simp only [Option.map_eq_some_iff] at hv
          obtain ⟨⟨j, e⟩, hf, rfl⟩ := hv
          obtain ⟨mm, f1, f2, f3, f4, f5, f6⟩ := abornAt_sound k1 hf
          refine ⟨.tuple #[mm.key, mm.val], ?_, VRs.two f3 f4⟩
          simp only [Instr.entry, Sem.run_bind, run_getObj_iter g3, Result.andThen_ok, List.back?_toArray, hst, run_getObj_map k2, bne_self_eq_false, Bool.false_eq_true, if_false, List.find?_toArray, f1, Sem.run_pure]
        · simp at hv
      · simp at hv
    · simp at hv
  · simp at hv

def amapEntry (P : Program) (S : St) (t : TypeId) (a k : AVal) : Option (AVal × St) :=
  match a, k with
  | .map m, .lit kv =>
    match P.underlying t with
    | some (.map _ et) =>
      match aseek P S t m kv, still P (zeroValue et) with
      | some (es, clock, none), some z => some (.tuple [.lit z, .lit (goInt clock)], { S with heap := S.heap.set m (.map (es ++ [⟨.lit kv, .lit z, clock⟩]) (clock + 1)) })
      | some (es, clock, some (i, v)), _ =>
        match es[i]? with
        | some ⟨.lit old, v', bn⟩ => if Instr.sameBits 10000 old kv = true then some (.tuple [v, .lit (goInt bn)], { S with heap := S.heap.set m (.map (es.modify i fun e => { e with key := .lit kv, val := v' }) clock) }) else none
        | _ => none
      | _, _ => none
    | _ => none
  | _, _ => none

theorem modify_key {ms : List MapEntry} {u : Value} {m : MapEntry} {i : Nat} (h : ms[i]? = some m) : (ms.modify i fun e => { e with key := u }) = ms.modify i fun e => { e with key := u, val := m.val } := by
  induction ms generalizing i with
  | nil => simp at h
  | cons d ms ih =>
    cases i with
    | zero => simp at h; subst h; simp
    | succ i => simp at h; simp [ih h]

theorem amapEntry_sound {k : AVal} {p q : Value} (h : Ok K E S X w) (ha : VR E a p) (hk : VR E k q) (hs : amapEntry P S t a k = some (v, S')) :
    ∃ y w', (Instr.mapEntry t p q).run P w = .ok y w' ∧ VR E v y ∧ Ok K E S' X w' := by
  unfold amapEntry at hs
  split at hs
  · rename_i m kv
    simp only [VR] at ha hk; obtain ⟨c, hc, rfl⟩ := ha; subst hk
    split at hs
    · rename_i kt0 et hu0
      split at hs
      · rename_i es clock z hsk hz
        simp only [Option.some.injEq, Prod.mk.injEq] at hs; obtain ⟨rfl, rfl⟩ := hs
        obtain ⟨kt, et', ms, hu, ho, g1, g2, g3, g4, g5⟩ := aseek_sound h hc hsk
        simp only at g5
        rw [hu0] at hu; simp only [Option.some.injEq, TypeDesc.map.injEq] at hu; obtain ⟨rfl, rfl⟩ := hu
        refine ⟨.tuple #[z, goInt clock], _, ?_, VRs.two (by simp only [VR]) (by simp only [VR]), h.put (o := .map (es ++ [⟨.lit q, .lit z, clock⟩]) (clock + 1)) (u := .map (ms ++ [(⟨q, z, clock⟩ : MapEntry)]).toArray (clock + 1)) hc ⟨_, g1.push (k := .lit q) (u := q) (by simp only [VR]) (by simp only [VR]), rfl⟩⟩
        simp [Instr.mapEntry, run_underlying' hu0, run_getObj_map g2, g3, g5, still_run hz, run_setObj_map g2]
      · rename_i es clock i vv hsk
        obtain ⟨kt, et', ms, hu, ho, g1, g2, g3, g4, x', g5, g6, g7⟩ := aseek_sound h hc hsk
        split at hs
        · rename_i old v0 b0 he
          split at hs
          · rename_i hsame
            simp only [Option.some.injEq, Prod.mk.injEq] at hs; obtain ⟨rfl, rfl⟩ := hs
            obtain ⟨mm, k1, k2, k3, k4⟩ := g1.get he
            simp only [VR] at k2
            refine ⟨.tuple #[x', goInt mm.born], _, ?_, VRs.two g6 (by simp only [VR, k4]), h.put (o := .map (es.modify i fun e => { e with key := .lit q, val := v0 }) clock) (u := .map (ms.modify i fun e => { e with key := q, val := mm.val }).toArray clock) hc ⟨_, g1.modify (k := .lit q) (u := q) (by simp only [VR]) k3 i, rfl⟩⟩
            simp [Instr.mapEntry, run_underlying' hu, run_getObj_map g2, g3, g5, k1, k2, Instr.keyThatStays, hsame, run_setObj_map g2, modify_key k1]
          · simp at hs
        · simp at hs
      · simp at hs
    · simp at hs
  · simp at hs

def aentryStore (S : St) (a st v : AVal) : Option St :=
  match a, st with
  | .map m, .lit (.int _ (.ofNat n)) =>
    match S.heap[m]? with
    | some (.map es clock) =>
      match abornAt es n 0 with
      | some (i, e) => some { S with heap := S.heap.set m (.map (es.modify i fun d => { d with key := e.key, val := v }) clock) }
      | none => none
    | _ => none
  | _, _ => none

theorem modify_val {ms : List MapEntry} {u : Value} {m : MapEntry} {i : Nat} (h : ms[i]? = some m) : (ms.modify i fun e => { e with val := u }) = ms.modify i fun e => { e with key := m.key, val := u } := by
  induction ms generalizing i with
  | nil => simp at h
  | cons d ms ih =>
    cases i with
    | zero => simp at h; subst h; simp
    | succ i => simp at h; simp [ih h]

theorem abornAt_get : ∀ {es : List AEnt} {st i j : Nat} {e : AEnt}, abornAt es st i = some (j, e) → i ≤ j ∧ es[j - i]? = some e
  | [], st, i, j, e, h => by simp [abornAt] at h
  | d :: es, st, i, j, e, h => by
    simp only [abornAt] at h
    split at h
    · simp only [Option.some.injEq, Prod.mk.injEq] at h; obtain ⟨rfl, rfl⟩ := h; simp
    · obtain ⟨h1, h2⟩ := abornAt_get h
      refine ⟨by omega, ?_⟩
      have : j - i = (j - (i + 1)) + 1 := by omega
      rw [this]; simpa using h2

theorem aentryStore_sound {st : AVal} {p q : Value} (h : Ok K E S X w) (ha : VR E a p) (hk : VR E st q) (hx : VR E v x) (hs : aentryStore S a st v = some S') :
    ∃ w', (Instr.entryStore t p q x).run P w = .ok () w' ∧ Ok K E S' X w' := by
  unfold aentryStore at hs
  split at hs
  · rename_i m k n
    simp only [VR] at ha hk; obtain ⟨c, hc, rfl⟩ := ha; subst hk
    split at hs
    · rename_i es clock ho
      obtain ⟨ms, g1, g2⟩ := h.mapAt hc ho
      split at hs
      · rename_i i e hf
        simp only [Option.some.injEq] at hs; subst hs
        obtain ⟨mm, f1, f2, f3, f4, f5, f6⟩ := abornAt_sound g1 hf
        obtain ⟨_, hget⟩ := abornAt_get hf
        obtain ⟨m2, k1, k2, k3, k4⟩ := g1.get hget
        simp only [Nat.sub_zero] at k1 f2
        refine ⟨_, ?_, h.put (o := .map (es.modify i fun d => { d with key := e.key, val := v }) clock) (u := .map (ms.modify i fun d => { d with key := m2.key, val := x }).toArray clock) hc ⟨_, g1.modify k2 hx i, rfl⟩⟩
        have f2' : ms.findIdx? (fun e => (e.born : Int) == Int.ofNat n) = some i := f2
        simp only [Instr.entryStore, Sem.run_bind, run_getObj_map g2, Result.andThen_ok, asInt, asIntOf, Sem.run_pure, List.findIdx?_toArray, f2', List.modify_toArray, modify_val k1, run_setObj_map g2]
      · simp at hs
    · simp at hs
  · simp at hs

end Go.Eng

namespace Go.Eng
open Go.RowKit

variable {P : Program} {K : Fix} {E F : Env} {S S' : St} {X : List (List Value)} {w w' : World} {a b v : AVal} {x y : Value} {t s : TypeId} {l r : List AVal} {xs : List Value} {i j n off f : Nat}

def one (o : AVal × St) : List (AVal × St) := [o]
def skipTo (S : St) : List (AVal × St) := [(uv, S)]

/-- A slice whose capacity may just be used up: both ways. -/
def aslice2 (P : Program) (S : St) (t : TypeId) (a : AVal) (lo hi mx : Option AVal) : Option (List (AVal × St)) :=
  match a with
  | .slice b off len m (some q) =>
    match P.underlying t with
    | some (.slice e) =>
      match P.info? e, abounds S len m (some q) lo hi mx with
      | some inf, some (l, u, none) =>
        if u = l ∧ capGe S m (some q) u = true then some [(.slice b off 0 0 none, S), (.slice b (off + l * inf.size) 0 (m + l) (some q), { S with caps := S.caps.set q (m + l + 1) })] else none
      | _, _ => none
    | _ => none
  | _ => none

theorem aslice2_sound {lo hi mx : Option AVal} {lo' hi' mx' : Option Value} {outs : List (AVal × St)} (h : Ok K E S X w) (ha : VR E a x) (h1 : OptR E lo lo') (h2 : OptR E hi hi') (h3 : OptR E mx mx')
    (hv : aslice2 P S t a lo hi mx = some outs) : ∃ v S' y, (v, S') ∈ outs ∧ (Instr.sliceAt t x lo' hi' mx').run P w = .ok y w ∧ VR E v y ∧ Ok K E S' X w := by
  unfold aslice2 at hv
  split at hv
  · rename_i b off len m q
    simp only [VR] at ha; obtain ⟨d, cap, hd, hcap, rfl⟩ := ha
    split at hv
    · rename_i e hu
      split at hv
      · rename_i inf l u hinf hb
        obtain ⟨hr, hle⟩ := abounds_sound (P := P) (isSlice := true) h hcap h1 h2 h3 hb
        split at hv
        · rename_i hul
          obtain ⟨hul, hge0⟩ := hul
          subst hul
          have hge := capGe_sound h hcap hge0
          simp only [Option.some.injEq] at hv; subst hv
          simp only [CapR] at hcap
          obtain ⟨nn, e1, e2, e3⟩ := hcap
          rcases Nat.lt_or_ge u cap with g | g
          · have hne : ¬ cap = u := by omega
            refine ⟨_, _, .slice (some ⟨d, off + u * inf.size, none⟩) (u - u) (cap - u), List.mem_cons_of_mem _ (List.mem_singleton.2 rfl), ?_, ?_, h.raise e1 (by omega)⟩
            · simp [Instr.sliceAt, run_underlying' hu, Instr.slice, hr, run_sizeOf' hinf, add_plain, hne]
            · rw [Nat.sub_self]
              simp only [VR]
              exact ⟨d, _, hd, ⟨nn, e1, by omega, by omega⟩, rfl⟩
          · have he : cap = u := by omega
            subst he
            refine ⟨_, _, .slice (some ⟨d, off, none⟩) 0 0, List.mem_cons_self .., ?_, ?_, h⟩
            · simp [Instr.sliceAt, run_underlying' hu, Instr.slice, hr, run_sizeOf' hinf, add_plain]
            · simp only [VR]
              exact ⟨d, _, hd, rfl, rfl⟩
        · simp at hv
      · simp at hv
    · simp at hv
  · simp at hv

/-- What an operation that changes memory may give. -/
def awrite (P : Program) (K : Glb) (S : St) (A : Operand → Option AVal) (o : Oper) : Option (List (AVal × St)) :=
  match o.op with
  | .alloc e => (still P (zeroValue e)).map fun z => one (newVarA S e (.lit z))
  | .box e x => ((A x).bind noTop).map fun v => one (newVarA S e v)
  | .buildSlice t len parts => ((aparts A parts.toList).bind (abuildSlice P S t len)).map one
  | .store t p x => match A p, A x with
    | some p, some v => (match astoreAt P S t p v with
      | some S' => some S'
      | none => astoreS P K S t p v).map skipTo
    | _, _ => none
  | .makeMap t r => ((aopt A r).bind fun r => match amakeMapS P K S t r with
    | some v => some v
    | none => amakeMap P S t r).map one
  | .makeSlice t l c => match A l, A c with
    | some l, some c => (amakeSlice P S t l c).map one
    | _, _ => none
  | .mapUpdate t m k x => match A m, A k, A x with
    | some m, some k, some v => (match aupdate P S t m k v with
      | some S' => some S'
      | none => aupdateS P K S t m k v).map skipTo
    | _, _, _ => none
  | .insert t m k x => match A m, A k, A x with
    | some m, some k, some v => (aupdate P S t m k v).map skipTo
    | _, _, _ => none
  | .mapEntry t m k => match A m, A k with
    | some m, some k => (amapEntry P S t m k).map one
    | _, _ => none
  | .entryStore _ m st x => match A m, A st, A x with
    | some m, some st, some v => (aentryStore S m st v).map skipTo
    | _, _, _ => none
  | .range t x => ((A x).bind (arange P S t)).map one
  | .next it isString => (A it).bind fun a => anext S a isString
  | .entry it => ((A it).bind (aentry S)).map fun v => [(v, S)]
  | .slice t x lo hi mx => match A x, aopt A lo, aopt A hi, aopt A mx with
    | some a, some lo, some hi, some mx => match aslice P S t a lo hi mx with
      | some v => some [(v, S)]
      | none => aslice2 P S t a lo hi mx
    | _, _, _, _ => none
  | .call { callee := .builtin .append, args, argTypes } => match aargs A args.toList with
    | some [p, q] => match aappendS P K S argTypes.toList p q with
      | some v => some v
      | none => aappend P S argTypes.toList p q
    | _ => none
  | .call { callee := .builtin .delete, args, argTypes } => match aargs A args.toList, argTypes.toList with
    | some [p, q], [t, _] => (match adelete P S t p q with
      | some S' => some S'
      | none => adeleteS P K S t p q).map fun S' => [(.lit (.tuple #[]), S')]
    | _, _ => none
  | .call { callee := .builtin .copy, args, argTypes } => match aargs A args.toList with
    | some [p, q] => (acopy P S argTypes.toList p q).map one
    | _ => none
  | .call { callee := .builtin .clear, args, argTypes } => match aargs A args.toList with
    | some [p] => (aclear P S argTypes.toList p).map fun S' => [(.lit (.tuple #[]), S')]
    | _ => none
  | _ => none

theorem args_two {A : Operand → Option AVal} {ρ : Operand → Value} {args : Array Operand} {p q : AVal} (hA : EvR E A ρ) (h : aargs A args.toList = some [p, q]) :
    ∃ x y, args.map ρ = #[x, y] ∧ VR E p x ∧ VR E q y := by
  have hr := aargs_sound hA h
  simp only [VRs] at hr
  obtain ⟨x, r, h1, ⟨y, r2, h2, rfl, rfl⟩, h3⟩ := hr
  refine ⟨x, y, ?_, h1, h2⟩
  apply Array.ext'
  simp only [Array.toList_map, h3]

theorem args_one {A : Operand → Option AVal} {ρ : Operand → Value} {args : Array Operand} {p : AVal} (hA : EvR E A ρ) (h : aargs A args.toList = some [p]) :
    ∃ x, args.map ρ = #[x] ∧ VR E p x := by
  have hr := aargs_sound hA h
  simp only [VRs] at hr
  obtain ⟨x, r, h1, rfl, h3⟩ := hr
  refine ⟨x, ?_, h1⟩
  apply Array.ext'
  simp only [Array.toList_map, h3]

theorem run_v {s : Sem Value} (h : s.run P w = .ok y w') : (do pure (.value (← s)) : Sem Next).run P w = .ok (.value y) w' := by
  rw [Sem.run_bind, h]; rfl
theorem run_u {s : Sem Unit} (h : s.run P w = .ok () w') : (do s; pure .skip : Sem Next).run P w = .ok .skip w' := by
  rw [Sem.run_bind, h]; rfl

theorem awrite_sound {A : Operand → Option AVal} {ρ : Operand → Value} {o : Oper} {outs : List (AVal × St)} (h : Ok K E S X w) (hA : EvR E A ρ) (hv : awrite P K S A o = some outs) :
    Gives P K E X (execOp ρ o) w outs := by
  obtain ⟨dst, op, type, pos, after, guard⟩ := o
  have uvR : ∀ {E' : Env}, VR E' uv undef := fun {E'} => by simp only [uv, VR]
  unfold awrite at hv
  simp only at hv
  split at hv
  · simp only [Option.map_eq_some_iff] at hv
    obtain ⟨z, hz, rfl⟩ := hv
    obtain ⟨y, w', E', g1, g2, g3, g4⟩ := newVarA_sound (P := P) (t := ‹TypeId›) (v := .lit z) (x := z) h (by simp only [VR]) (by simp)
    refine ⟨_, _, y, w', E', List.mem_singleton.2 rfl, .inl ?_, g2, g3, g4⟩
    refine run_v ?_
    simp only [Instr.alloc, Sem.run_bind, still_run hz, Result.andThen_ok]
    rw [Sem.run_bind] at g1; exact g1
  · simp only [Option.map_eq_some_iff] at hv
    obtain ⟨v, hv, rfl⟩ := hv
    simp only [Option.bind_eq_some_iff] at hv
    obtain ⟨v', hv, hnt⟩ := hv
    obtain ⟨rfl, hne⟩ := noTop_some hnt
    obtain ⟨y, w', E', g1, g2, g3, g4⟩ := newVarA_sound (P := P) (t := ‹TypeId›) h (hA _ _ hv) hne
    exact ⟨_, _, y, w', E', List.mem_singleton.2 rfl, .inl (run_v g1), g2, g3, g4⟩
  · rename_i t len parts
    simp only [Option.map_eq_some_iff, Option.bind_eq_some_iff] at hv
    obtain ⟨⟨v, S'⟩, ⟨ps, hps, hb⟩, rfl⟩ := hv
    obtain ⟨y, w', E', g1, g2, g3, g4⟩ := abuildSlice_sound h (aparts_sound hA hps) hb
    refine ⟨v, S', y, w', E', List.mem_singleton.2 rfl, .inl (run_v ?_), g2, g3, g4⟩
    have e : (parts.map fun x => match x with | (i, x) => (i, ρ x)) = (parts.toList.map fun p => (p.1, ρ p.2)).toArray := by simp [← Array.toList_map]
    rw [e]; exact g1
  · split at hv
    · rename_i p v hp hx
      simp only [Option.map_eq_some_iff] at hv
      obtain ⟨S', hs, rfl⟩ := hv
      split at hs
      · rename_i S2 hs'
        obtain rfl := Option.some.inj hs
        obtain ⟨w', g1, g2⟩ := astoreAt_sound (P := P) h (hA _ _ hp) (hA _ _ hx) hs'
        exact ⟨uv, _, undef, w', E, List.mem_singleton.2 rfl, .inr ⟨rfl, run_u g1⟩, uvR, g2, .refl E⟩
      · obtain ⟨w', g1, g2⟩ := astoreS_sound (P := P) h (hA _ _ hp) (hA _ _ hx) hs
        exact ⟨uv, S', undef, w', E, List.mem_singleton.2 rfl, .inr ⟨rfl, run_u g1⟩, uvR, g2, .refl E⟩
    · simp at hv
  · simp only [Option.map_eq_some_iff, Option.bind_eq_some_iff] at hv
    obtain ⟨⟨v, S'⟩, ⟨r, hr, hb⟩, rfl⟩ := hv
    split at hb
    · rename_i v2 hs'
      obtain rfl := Option.some.inj hb
      obtain ⟨y, w', E', g1, g2, g3, g4⟩ := amakeMapS_sound (P := P) h (aopt_sound hA hr) hs'
      exact ⟨_, _, y, w', E', List.mem_singleton.2 rfl, .inl (run_v g1), g2, g3, g4⟩
    obtain ⟨y, w', E', g1, g2, g3, g4⟩ := amakeMap_sound (P := P) h (aopt_sound hA hr) hb
    exact ⟨v, S', y, w', E', List.mem_singleton.2 rfl, .inl (run_v g1), g2, g3, g4⟩
  · split at hv
    · rename_i l c hl hc
      simp only [Option.map_eq_some_iff] at hv
      obtain ⟨⟨v, S'⟩, hb, rfl⟩ := hv
      obtain ⟨y, w', E', g1, g2, g3, g4⟩ := amakeSlice_sound (P := P) h (hA _ _ hl) (hA _ _ hc) hb
      exact ⟨v, S', y, w', E', List.mem_singleton.2 rfl, .inl (run_v g1), g2, g3, g4⟩
    · simp at hv
  · split at hv
    · rename_i m k v hm hk hx
      simp only [Option.map_eq_some_iff] at hv
      obtain ⟨S', hs, rfl⟩ := hv
      split at hs
      · rename_i S2 hs'
        obtain rfl := Option.some.inj hs
        obtain ⟨w', g1, g2⟩ := aupdate_sound (P := P) h (hA _ _ hm) (hA _ _ hk) (hA _ _ hx) hs'
        exact ⟨uv, _, undef, w', E, List.mem_singleton.2 rfl, .inr ⟨rfl, run_u g1⟩, uvR, g2, .refl E⟩
      · obtain ⟨w', g1, g2⟩ := aupdateS_sound (P := P) h (hA _ _ hm) (hA _ _ hk) (hA _ _ hx) hs
        exact ⟨uv, S', undef, w', E, List.mem_singleton.2 rfl, .inr ⟨rfl, run_u g1⟩, uvR, g2, .refl E⟩
    · simp at hv
  · split at hv
    · rename_i m k v hm hk hx
      simp only [Option.map_eq_some_iff] at hv
      obtain ⟨S', hs, rfl⟩ := hv
      obtain ⟨w', g1, g2⟩ := aupdate_sound (P := P) h (hA _ _ hm) (hA _ _ hk) (hA _ _ hx) hs
      exact ⟨uv, S', undef, w', E, List.mem_singleton.2 rfl, .inr ⟨rfl, run_u g1⟩, uvR, g2, .refl E⟩
    · simp at hv
  · split at hv
    · rename_i m k hm hk
      simp only [Option.map_eq_some_iff] at hv
      obtain ⟨⟨v, S'⟩, hs, rfl⟩ := hv
      obtain ⟨y, w', g1, g2, g3⟩ := amapEntry_sound (P := P) h (hA _ _ hm) (hA _ _ hk) hs
      exact ⟨v, S', y, w', E, List.mem_singleton.2 rfl, .inl (run_v g1), g2, g3, .refl E⟩
    · simp at hv
  · split at hv
    · rename_i m k v hm hk hx
      simp only [Option.map_eq_some_iff] at hv
      obtain ⟨S', hs, rfl⟩ := hv
      obtain ⟨w', g1, g2⟩ := aentryStore_sound (P := P) h (hA _ _ hm) (hA _ _ hk) (hA _ _ hx) hs
      exact ⟨uv, S', undef, w', E, List.mem_singleton.2 rfl, .inr ⟨rfl, run_u g1⟩, uvR, g2, .refl E⟩
    · simp at hv
  · simp only [Option.map_eq_some_iff, Option.bind_eq_some_iff] at hv
    obtain ⟨⟨v, S'⟩, ⟨p, hp, hb⟩, rfl⟩ := hv
    obtain ⟨y, w', E', g1, g2, g3, g4⟩ := arange_sound (P := P) h (hA _ _ hp) hb
    exact ⟨v, S', y, w', E', List.mem_singleton.2 rfl, .inl (run_v g1), g2, g3, g4⟩
  · simp only [Option.bind_eq_some_iff] at hv
    obtain ⟨p, hp, hb⟩ := hv
    obtain ⟨v, S', y, w', g0, g1, g2, g3⟩ := anext_sound (P := P) (ty := type) h (hA _ _ hp) hb
    exact ⟨v, S', y, w', E, g0, .inl (run_v g1), g2, g3, .refl E⟩
  · simp only [Option.map_eq_some_iff, Option.bind_eq_some_iff] at hv
    obtain ⟨v, ⟨p, hp, hb⟩, rfl⟩ := hv
    obtain ⟨y, g1, g2⟩ := aentry_sound (P := P) h (hA _ _ hp) hb
    exact ⟨v, S, y, w, E, List.mem_singleton.2 rfl, .inl (run_v g1), g2, h, .refl E⟩
  · split at hv
    · rename_i a lo hi mx h0 h1 h2 h3
      split at hv
      · rename_i v hs
        simp only [Option.some.injEq] at hv; subst hv
        obtain ⟨y, g1, g2⟩ := aslice_sound h (hA _ _ h0) (aopt_sound hA h1) (aopt_sound hA h2) (aopt_sound hA h3) hs
        exact ⟨v, S, y, w, E, List.mem_singleton.2 rfl, .inl (run_v g1), g2, h, .refl E⟩
      obtain ⟨v, S', y, g0, g1, g2, g3⟩ := aslice2_sound h (hA _ _ h0) (aopt_sound hA h1) (aopt_sound hA h2) (aopt_sound hA h3) hv
      exact ⟨v, S', y, w, E, g0, .inl (run_v g1), g2, g3, .refl E⟩
    · simp at hv
  · split at hv
    · rename_i args ats _ p q hpq
      obtain ⟨x, y, e1, r1, r2⟩ := args_two hA hpq
      have hap : ∃ v S' y' w' E', (v, S') ∈ outs ∧ (Builtin.append_ ats type #[x, y]).run P w = .ok y' w' ∧ VR E' v y' ∧ Ok K E' S' X w' ∧ E.Le E' := by
        split at hv
        · rename_i v2 hs'
          obtain rfl := Option.some.inj hv
          exact aappendS_sound (ty := type) h r1 r2 hs'
        · exact aappend_sound (ty := type) h r1 r2 hv
      obtain ⟨v, S', y', w', E', g0, g1, g2, g3, g4⟩ := hap
      refine ⟨v, S', y', w', E', g0, .inl ?_, g2, g3, g4⟩
      simp only [execOp, resolve, e1, Sem.run_bind, Sem.run_pure, Result.andThen_ok, invoke, builtin, g1]
    · simp at hv
  · split at hv
    · rename_i args ats _ _ p q t t' hpq hat
      have hats : ats = #[t, t'] := by rw [← hat]
      subst hats
      obtain ⟨x, y, e1, r1, r2⟩ := args_two hA hpq
      simp only [Option.map_eq_some_iff] at hv
      obtain ⟨S', hs, rfl⟩ := hv
      have hd : ∃ w', (Builtin.delete_ #[t, t'] type #[x, y]).run P w = .ok (.tuple #[]) w' ∧ Ok K E S' X w' := by
        split at hs
        · rename_i S2 hs'
          obtain rfl := Option.some.inj hs
          exact adelete_sound (P := P) (s := t') (ty := type) h r1 r2 hs'
        · exact adeleteS_sound (P := P) (s := t') (ty := type) h r1 r2 hs
      obtain ⟨w', g1, g2⟩ := hd
      refine ⟨_, S', .tuple #[], w', E, List.mem_singleton.2 rfl, .inl ?_, by simp only [VR], g2, .refl E⟩
      simp only [execOp, resolve, e1, Sem.run_bind, Sem.run_pure, Result.andThen_ok, invoke, builtin, g1]
    · simp at hv
  · split at hv
    · rename_i args ats p q hpq
      obtain ⟨x, y, e1, r1, r2⟩ := args_two hA hpq
      simp only [Option.map_eq_some_iff] at hv
      obtain ⟨⟨v, S'⟩, hs, rfl⟩ := hv
      obtain ⟨y', w', g1, g2, g3⟩ := acopy_sound (P := P) (ty := type) h r1 r2 hs
      refine ⟨v, S', y', w', E, List.mem_singleton.2 rfl, .inl ?_, g2, g3, .refl E⟩
      simp only [execOp, resolve, e1, Sem.run_bind, Sem.run_pure, Result.andThen_ok, invoke, builtin, g1]
    · simp at hv
  · split at hv
    · rename_i args ats p hpq
      obtain ⟨x, e1, r1⟩ := args_one hA hpq
      simp only [Option.map_eq_some_iff] at hv
      obtain ⟨S', hs, rfl⟩ := hv
      obtain ⟨w', g1, g2⟩ := aclear_sound (P := P) (ty := type) h r1 hs
      refine ⟨_, S', .tuple #[], w', E, List.mem_singleton.2 rfl, .inl ?_, by simp only [VR], g2, .refl E⟩
      simp only [execOp, resolve, e1, Sem.run_bind, Sem.run_pure, Result.andThen_ok, invoke, builtin, g1]
    · simp at hv
  · simp at hv

/-- Which function a call calls, on what. -/
def acallee (A : Operand → Option AVal) (o : Oper) : Option (FuncId × List AVal) :=
  match o.op with
  | .call { callee := .value f, args, .. } =>
    match A f, aargs A args.toList with
    | some (.lit (.func (.func g) p q)), some vs => some (g, p.toList.map .lit ++ vs ++ q.toList.map .lit)
    | some (.func (.func g) p q), some vs => some (g, p ++ vs ++ q)
    | _, _ => none
  | _ => none

theorem acallee_sound {A : Operand → Option AVal} {ρ : Operand → Value} {o : Oper} {g : FuncId} {vs : List AVal} (hA : EvR E A ρ) (hv : acallee A o = some (g, vs)) :
    ∃ xs, VRs E vs xs ∧ ∀ w, (execOp ρ o).run P w = (callFunc g xs.toArray).run P w := by
  obtain ⟨dst, op, type, pos, after, guard⟩ := o
  unfold acallee at hv
  simp only at hv
  split at hv
  · rename_i f args ats
    split at hv
    · rename_i g' p q us hf hus
      simp only [Option.some.injEq, Prod.mk.injEq] at hv; obtain ⟨rfl, rfl⟩ := hv
      have hr := aargs_sound hA hus
      have hfv := hA _ _ hf
      simp only [VR] at hfv
      refine ⟨p.toList ++ args.toList.map ρ ++ q.toList, ((VRs.lits _).append hr).append (VRs.lits _), fun w => ?_⟩
      have e : (p.toList ++ args.toList.map ρ ++ q.toList).toArray = p ++ args.map ρ ++ q := by
        apply Array.ext'; simp
      rw [e]
      simp only [execOp, resolve, hfv, Deferred.ofValue, Sem.run_bind, Sem.run_pure, Result.andThen_ok, invoke]
    · rename_i g' p q us hf hus
      simp only [Option.some.injEq, Prod.mk.injEq] at hv; obtain ⟨rfl, rfl⟩ := hv
      have hr := aargs_sound hA hus
      have hfv := hA _ _ hf
      simp only [VR] at hfv
      obtain ⟨fs, gs, h1, h2, h3⟩ := hfv
      refine ⟨fs ++ args.toList.map ρ ++ gs, (h1.append hr).append h2, fun w => ?_⟩
      have e : (fs ++ args.toList.map ρ ++ gs).toArray = fs.toArray ++ args.map ρ ++ gs.toArray := by
        apply Array.ext'; simp
      rw [e]
      simp only [execOp, resolve, h3, Deferred.ofValue, Sem.run_bind, Sem.run_pure, Result.andThen_ok, invoke]
    · simp at hv
  · simp at hv

end Go.Eng

namespace Go.Eng
open Go.RowKit

variable {P : Program} {K : Fix} {E F : Env} {S S' : St} {X : List (List Value)} {w w' : World} {a b v : AVal} {x y : Value} {t s : TypeId} {l r : List AVal} {xs : List Value} {i j n off f : Nat}

/-- What calls may give. -/
abbrev CallF := FuncId → List AVal → St → Option (List (AVal × St))

def CallOk (P : Program) (K : Fix) (call : CallF) : Prop := ∀ f args S outs, call f args S = some outs → ∀ (E : Env) (X : List (List Value)) (w : World) (xs : List Value), Ok K E S X w → VRs E args xs →
  Calls P f xs.toArray w fun e w' => ∃ v S' y E', (v, S') ∈ outs ∧ e = .returned y ∧ VR E' v y ∧ Ok K E' S' X w'

def ExtOk (P : Program) (K : Fix) (ext : CallF) : Prop := ∀ f args S outs, ext f args S = some outs → ∀ (E : Env) (X : List (List Value)) (w : World) (xs : List Value), Ok K E S X w → VRs E args xs →
  Gives P K E X (callFunc f xs.toArray) w outs

/-- A function with a body, that is entered. -/
def enters (P : Program) (f : FuncId) : Bool :=
  match P.funcs[f]? with
  | some fn => fn.body.isSome && !(fn.name == "runtime.NumGoroutine")
  | none => false

theorem run_enters {f : FuncId} {args : Array Value} (h : enters P f = true) : (callFunc f args).run P w = .ok (.enter f args) w := by
  unfold enters at h
  split at h
  · rename_i fn hf
    simp only [Bool.and_eq_true, Bool.not_eq_true'] at h
    obtain ⟨h1, h2⟩ := h
    have h3 : fn.body.isNone = false := by cases hb : fn.body <;> simp_all
    simp only [callFunc, Sem.run_bind, run_program, Result.andThen_ok, hf, h2, h3, Bool.false_eq_true, if_false, Sem.run_pure]
  · cases h

theorem SR.append {l m : List (List AVal)} {A B : List (List Value)} (h : SR E l A) (k : SR E m B) : SR E (l ++ m) (A ++ B) := by
  induction l generalizing A with
  | nil => simp only [SR] at h; subst h; simpa using k
  | cons c l ih =>
    simp only [SR] at h; obtain ⟨x, r, h1, h2, rfl⟩ := h
    simp only [List.cons_append, SR]; exact ⟨x, _, h1, ih h2, rfl⟩
theorem SR.length {l : List (List AVal)} {A : List (List Value)} (h : SR E l A) : l.length = A.length := by
  induction l generalizing A with
  | nil => simp only [SR] at h; subst h; rfl
  | cons c l ih =>
    simp only [SR] at h; obtain ⟨x, r, h1, h2, rfl⟩ := h
    simp [ih h2]
theorem SR.split {l : List (List AVal)} {A B : List (List Value)} (h : SR E l (A ++ B)) : SR E (l.take A.length) A ∧ SR E (l.drop A.length) B := by
  induction A generalizing l with
  | nil => simp only [List.length_nil, List.take_zero, List.drop_zero, SR]; exact ⟨trivial, by simpa using h⟩
  | cons c A ih =>
    cases l with
    | nil => simp only [SR] at h; cases h
    | cons d l =>
      simp only [List.cons_append, SR, List.cons.injEq] at h
      obtain ⟨x, r, h1, h2, rfl, rfl⟩ := h
      obtain ⟨g1, g2⟩ := ih h2
      simp only [List.length_cons, List.take_succ_cons, List.drop_succ_cons, SR]
      exact ⟨⟨c, A, h1, g1, rfl⟩, g2⟩

theorem Ok.push {ctx : List (List AVal)} {CX : List (List Value)} (h : Ok K E S X w) (hc : SR E ctx CX) : Ok K E { S with stk := ctx ++ S.stk } (CX ++ X) w :=
  ⟨h.dom, h.obj, h.inj, h.kdom, h.lb, h.below, h.base, hc.append h.stk, h.x⟩
theorem Ok.pop {CX : List (List Value)} (h : Ok K E S (CX ++ X) w) : Ok K E { S with stk := S.stk.drop CX.length } X w ∧ SR E (S.stk.take CX.length) CX :=
  ⟨⟨h.dom, h.obj, h.inj, h.kdom, h.lb, h.below, h.base, h.stk.split.2, h.x⟩, h.stk.split.1⟩

/-- A condition more. -/
def St.withC (S : St) (t : Tm) (r : Bool) : St := { S with x := { S.x with conds := (t, r) :: S.x.conds } }
theorem Ok.withC {t : Tm} {r : Bool} (h : Ok K E S X w) (ht : t.den E = some (.bool r)) : Ok K E (S.withC t r) X w :=
  ⟨h.dom, h.obj, h.inj, h.kdom, h.lb, h.below, h.base, h.stk, ⟨h.x.fn, h.x.objs, h.x.odis, h.x.opp, h.x.onam, h.x.obnd, h.x.pbnd, fun p hp => by
    rcases List.mem_cons.1 hp with rfl | hp
    · exact ht
    · exact h.x.conds p hp, h.x.vars, h.x.base⟩⟩

/-- An operation with an effect: what it gives, what has become of the values that are held meanwhile, the memory. -/
def aeff (P : Program) (K : Glb) (ext call : CallF) (S : St) (ctx : List (List AVal)) (A : Operand → Option AVal) (o : Oper) : Option (List (AVal × List (List AVal) × St)) :=
  match awrite P K S A o with
  | some outs => some (outs.map fun p => (p.1, ctx, p.2))
  | none =>
    match acallee A o with
    | none => none
    | some (f, args) =>
      match ext f args S with
      | some outs => some (outs.map fun p => (p.1, ctx, p.2))
      | none =>
        if enters P f = true then
          (call f args { S with stk := ctx ++ S.stk }).map fun outs => outs.map fun p => (p.1, p.2.stk.take ctx.length, { p.2 with stk := p.2.stk.drop ctx.length })
        else none

theorem aeff_sound {ext call : CallF} (he : ExtOk P K ext) (hcl : CallOk P K call) {ctx : List (List AVal)} {CX : List (List Value)} {A : Operand → Option AVal} {o : Oper} {outs : List (AVal × List (List AVal) × St)}
    {ac : Act} {next : Act → World → Prop} {Q : Exit → Act → World → Prop} (h : Ok K E S X w) (hA : EvR E A ac.eval) (hc : SR E ctx CX) (hv : aeff P K ext call S ctx A o = some outs)
    (hn : ∀ v ctx' S' E' w' y, (v, ctx', S') ∈ outs → VR E' v y → SR E' ctx' CX → Ok K E' S' X w' → next (ac.put o.dst y) w') : o.wp P ac w next Q := by
  have hgive : ∀ (os : List (AVal × St)) (s : Sem Next), Gives P K E X s w os → outs = os.map (fun p => (p.1, ctx, p.2)) → o.upon P ac next Q (s.run P w) := by
    rintro os s ⟨v, S', y, w', E', g0, g1, g2, g3, g4⟩ rfl
    have hmem : (v, ctx, S') ∈ os.map (fun p => (p.1, ctx, p.2)) := List.mem_map.2 ⟨(v, S'), g0, rfl⟩
    have := hn v ctx S' E' w' y hmem g2 (SR.mono g4 _ _ hc) g3
    rcases g1 with g1 | ⟨rfl, g1⟩
    · rw [g1]; exact this
    · rw [g1]; exact this
  unfold Oper.wp
  unfold aeff at hv
  split at hv
  · rename_i os hos
    simp only [Option.some.injEq] at hv
    exact hgive os _ (awrite_sound h hA hos) hv.symm
  · split at hv
    · simp at hv
    · rename_i f args hf
      obtain ⟨xs, rxs, hrun⟩ := acallee_sound (P := P) hA hf
      rw [hrun]
      split at hv
      · rename_i os hos
        simp only [Option.some.injEq] at hv
        exact hgive os _ (he f args S os hos E X w xs h rxs) hv.symm
      · split at hv
        · rename_i hent
          simp only [Option.map_eq_some_iff] at hv
          obtain ⟨os, hos, rfl⟩ := hv
          rw [run_enters hent, Oper.upon_enter]
          refine (hcl f args _ os hos E (CX ++ X) w xs (h.push hc) rxs).mono ?_
          rintro e w' ⟨v, S', y, E', g0, rfl, g2, g3⟩
          obtain ⟨g4, g5⟩ := g3.pop
          have hl := hc.length
          refine hn v (S'.stk.take ctx.length) { S' with stk := S'.stk.drop ctx.length } E' w' y (List.mem_map.2 ⟨(v, S'), g0, rfl⟩) g2 ?_ ?_
          · rw [hl]; exact g5
          · rw [hl]; exact g4
        · simp at hv

/-- The registers' operands. -/
def opR (R : List AVal) : Operand → Option AVal
  | .tmp t => (R[t]?).bind noTop
  | .const v => some (.lit v)
  | .global g => some (.lit (.pointer (some ⟨g, 0, none⟩)))
  | .func f => some (.lit (.func (.func f) #[] #[]))

theorem opR_sound {R : List AVal} {ac : Act} (h : VRs E R ac.tmps.toList) : EvR E (opR R) ac.eval := by
  intro o v ho
  cases o with
  | tmp t =>
    simp only [opR, Option.bind_eq_some_iff] at ho
    obtain ⟨v', ho, hnt⟩ := ho
    obtain ⟨rfl, _⟩ := noTop_some hnt
    obtain ⟨x, h1, h2⟩ := h.get ho
    have : ac.tmps.getD t undef = x := by
      rw [Array.getElem?_toList] at h1
      simp [Array.getD_eq_getD_getElem?, h1]
    simp only [Act.eval, this]; exact h2
  | const v => simp only [opR, Option.some.injEq] at ho; subst ho; simp only [VR, Act.eval]
  | global g => simp only [opR, Option.some.injEq] at ho; subst ho; simp only [VR, Act.eval]
  | func f => simp only [opR, Option.some.injEq] at ho; subst ho; simp only [VR, Act.eval]

def putR (R : List AVal) (dst : Option Tmp) (v : AVal) : List AVal :=
  match dst with
  | some d => R.set d v
  | none => R

theorem putR_sound {R : List AVal} {ac : Act} {dst : Option Tmp} (h : VRs E R ac.tmps.toList) (hv : VR E v x) : VRs E (putR R dst v) (ac.put dst x).tmps.toList := by
  cases dst with
  | none => exact h
  | some d => simp only [putR, Act.put, Array.toList_setIfInBounds]; exact h.set hv

theorem put_defers {ac : Act} {dst : Option Tmp} : (ac.put dst x).defers = ac.defers := by cases dst <;> rfl

/-- Is the value of a guard's test known? -/
def isB (cs : Conds) (want : Bool) : AVal → Option Bool
  | .lit (.bool b) => some (b == want)
  | .tm .bool t => (known cs t).map fun b => b == want
  | .tm .any _ => none
  | .top => none
  | _ => some false

theorem isB_sound {cs : Conds} {want r : Bool} (hc : CondsOk E cs) (h : VR E a x) (hv : isB cs want a = some r) : ((match some x with | some (.bool b) => some b | _ => none) == some want) = r := by
  cases a with
  | top => simp [isB] at hv
  | tm k t =>
    simp only [VR] at h
    cases k with
    | raw k => obtain ⟨z, _, rfl⟩ := h; simp only [isB, Option.some.injEq] at hv; subst hv; simp
    | int k => obtain ⟨z, _, _, rfl⟩ := h; simp only [isB, Option.some.injEq] at hv; subst hv; simp
    | bool =>
      obtain ⟨z, h1, rfl⟩ := h
      simp only [isB, Option.map_eq_some_iff] at hv
      obtain ⟨b, hb, rfl⟩ := hv
      rw [known_sound hc hb h1]; simp
    | str => obtain ⟨z, _, rfl⟩ := h; simp only [isB, Option.some.injEq] at hv; subst hv; simp
    | ptr => obtain ⟨z, _, rfl⟩ := h; simp only [isB, Option.some.injEq] at hv; subst hv; simp
    | any => simp [isB] at hv
  | lit v => simp only [VR] at h; subst h; cases x <;> simp only [isB, Option.some.injEq] at hv <;> subst hv <;> simp
  | ptr b off => simp only [VR] at h; obtain ⟨c, _, rfl⟩ := h; simp only [isB, Option.some.injEq] at hv; subst hv; simp
  | slice b off len m q => simp only [VR] at h; obtain ⟨c, k, _, _, rfl⟩ := h; simp only [isB, Option.some.injEq] at hv; subst hv; simp
  | map b => simp only [VR] at h; obtain ⟨c, _, rfl⟩ := h; simp only [isB, Option.some.injEq] at hv; subst hv; simp
  | func fn f g => simp only [VR] at h; obtain ⟨fs, gs, _, _, rfl⟩ := h; simp only [isB, Option.some.injEq] at hv; subst hv; simp
  | iface t v => simp only [VR] at h; obtain ⟨y, _, rfl⟩ := h; simp only [isB, Option.some.injEq] at hv; subst hv; simp
  | agg l => simp only [VR] at h; obtain ⟨y, _, rfl⟩ := h; simp only [isB, Option.some.injEq] at hv; subst hv; simp
  | tuple l => simp only [VR] at h; obtain ⟨y, _, rfl⟩ := h; simp only [isB, Option.some.injEq] at hv; subst hv; simp

def awanted (cs : Conds) (ops : Array Oper) (R : List AVal) (o : Oper) : Option Bool :=
  match o.guard with
  | none => some true
  | some (j, want) =>
    match (ops[j]?).bind (·.dst) with
    | none => none
    | some d => (R[d]?).bind (isB cs want)

theorem awanted_sound {cs : Conds} {ops : Array Oper} {R : List AVal} {ac : Act} {o : Oper} {b : Bool} (hc : CondsOk E cs) (h : VRs E R ac.tmps.toList) (hv : awanted cs ops R o = some b) : Region.wanted o (yielded ops ac.tmps) = b := by
  unfold awanted at hv
  unfold Region.wanted
  split at hv
  · rename_i hg; simp only [Option.some.injEq] at hv; subst hv; rw [hg]
  · rename_i j want hg
    rw [hg]
    split at hv
    · simp at hv
    · rename_i d hd
      simp only [Option.bind_eq_some_iff] at hv
      obtain ⟨v, hv, hb⟩ := hv
      obtain ⟨x, h1, h2⟩ := h.get hv
      rw [Array.getElem?_toList] at h1
      simp only [yielded, hd, Option.bind_some, h1]
      exact isB_sound hc h2 hb

/-- The condition of an operation, where it isn't known. -/
def guardTm (ops : Array Oper) (R : List AVal) (o : Oper) : Option Tm :=
  match o.guard with
  | none => none
  | some (j, _) =>
    match (ops[j]?).bind (·.dst) with
    | none => none
    | some d => match R[d]? with
      | some (.tm .bool t) => some t
      | _ => none

theorem guardTm_sound {ops : Array Oper} {R : List AVal} {xs : List Value} {o : Oper} {t : Tm} (h : VRs E R xs) (hv : guardTm ops R o = some t) : ∃ r, t.den E = some (.bool r) := by
  unfold guardTm at hv
  split at hv
  · cases hv
  · split at hv
    · cases hv
    · split at hv
      · rename_i u hu
        obtain rfl := Option.some.inj hv
        obtain ⟨x, _, h2⟩ := h.get hu
        simp only [VR] at h2
        obtain ⟨r, h3, _⟩ := h2
        exact ⟨r, h3⟩
      · cases hv

/-- One operation, in its turn. -/
def aopW (P : Program) (K : Glb) (ext call : CallF) (ops : Array Oper) (R : List AVal) (S : St) (o : Oper) : Option (List (List AVal × St)) :=
  match awanted S.x.conds ops R o with
  | none => none
  | some false => some [(putR R o.dst uv, S)]
  | some true =>
    match aread P K S (opR R) o with
    | some v => some [(putR R o.dst v, S)]
    | none => (aeff P K ext call S [R] (opR R) o).map fun outs => outs.filterMap fun p => match p.2.1 with
      | [R'] => some (putR R' o.dst p.1, p.2.2)
      | _ => none

/-- A choice whose condition isn't known. -/
def pickTm (cs : Conds) (A : Operand → Option AVal) (o : Oper) : Option Tm :=
  match o.op with
  | .pick c _ _ => match A c with
    | some (.tm .bool t) => match known cs t with
      | none => some t
      | some _ => none
    | _ => none
  | _ => none

theorem pickTm_sound {cs : Conds} {A : Operand → Option AVal} {ρ : Operand → Value} {o : Oper} {t : Tm} (hA : EvR E A ρ) (hv : pickTm cs A o = some t) : ∃ r, t.den E = some (.bool r) := by
  unfold pickTm at hv
  split at hv
  · split at hv
    · rename_i u hu
      split at hv
      · obtain rfl := Option.some.inj hv
        have := hA _ _ hu
        simp only [VR] at this
        obtain ⟨r, h, _⟩ := this
        exact ⟨r, h⟩
      · cases hv
    · cases hv
  · cases hv

def splitTm (cs : Conds) (ops : Array Oper) (R : List AVal) (o : Oper) : Option Tm :=
  match awanted cs ops R o with
  | none => guardTm ops R o
  | some true => pickTm cs (opR R) o
  | some false => none

def aop (P : Program) (K : Glb) (ext call : CallF) (ops : Array Oper) (R : List AVal) (S : St) (o : Oper) : Option (List (List AVal × St)) :=
  match splitTm S.x.conds ops R o with
  | none => aopW P K ext call ops R S o
  | some t =>
    match aopW P K ext call ops R (S.withC t true) o, aopW P K ext call ops R (S.withC t false) o with
    | some a, some b => some (a ++ b)
    | _, _ => none

def bindAll {α β : Type} (f : α → Option (List β)) : List α → Option (List β)
  | [] => some []
  | x :: l => match f x, bindAll f l with
    | some a, some b => some (a ++ b)
    | _, _ => none

theorem bindAll_mem {α β : Type} {f : α → Option (List β)} : ∀ {l : List α} {r : List β} {x : α}, bindAll f l = some r → x ∈ l → ∃ ys, f x = some ys ∧ ∀ y ∈ ys, y ∈ r
  | [], r, x, _, hx => by simp at hx
  | z :: l, r, x, h, hx => by
    simp only [bindAll] at h
    split at h
    · rename_i a b h1 h2
      simp only [Option.some.injEq] at h; subst h
      rcases List.mem_cons.1 hx with rfl | hx
      · exact ⟨a, h1, fun y hy => List.mem_append.2 (.inl hy)⟩
      · obtain ⟨ys, g1, g2⟩ := bindAll_mem h2 hx
        exact ⟨ys, g1, fun y hy => List.mem_append.2 (.inr (g2 y hy))⟩
    · simp at h

def aseq (P : Program) (K : Glb) (ext call : CallF) (ops : Array Oper) : List Oper → List AVal → St → Option (List (List AVal × St))
  | [], R, S => some [(R, S)]
  | o :: l, R, S => (aop P K ext call ops R S o).bind (bindAll fun p => aseq P K ext call ops l p.1 p.2)

theorem aseq_sound {ext call : CallF} (he : ExtOk P K ext) (hcl : CallOk P K call) {ops : Array Oper} {Q : Exit → Act → World → Prop} : ∀ {l : List Oper} {R : List AVal} {S : St} {E : Env} {w : World} {ac : Act} {outs : List (List AVal × St)},
    Ok K E S X w → VRs E R ac.tmps.toList → aseq P K ext call ops l R S = some outs →
    (∀ R' S' E' w' ac', (R', S') ∈ outs → VRs E' R' ac'.tmps.toList → Ok K E' S' X w' → ac'.defers = ac.defers → Q .normal ac' w') → wpList P ops Q l ac w
  | [], R, S, E, w, ac, outs, h, hR, hv, hq => by
    simp only [aseq, Option.some.injEq] at hv; subst hv
    exact hq R S E w ac (List.mem_singleton.2 rfl) hR h rfl
  | o :: l, R, S, E, w, ac, outs, h, hR, hv, hq => by
    simp only [aseq, Option.bind_eq_some_iff] at hv
    obtain ⟨mid, hmid, hv⟩ := hv
    have step : ∀ {R' : List AVal} {S' : St} {E' : Env} {w' : World} {ac' : Act}, (R', S') ∈ mid → VRs E' R' ac'.tmps.toList → Ok K E' S' X w' → ac'.defers = ac.defers → wpList P ops Q l ac' w' := by
      intro R' S' E' w' ac' hm hR' h' hd
      obtain ⟨ys, g1, g2⟩ := bindAll_mem hv hm
      exact aseq_sound he hcl h' hR' g1 fun R2 S2 E2 w2 ac2 hm2 hR2 h2 hd2 => hq R2 S2 E2 w2 ac2 (g2 _ hm2) hR2 h2 (hd2.trans hd)
    have main : ∀ {S : St} {outs' : List (List AVal × St)}, Ok K E S X w → aopW P K ext call ops R S o = some outs' → (∀ p ∈ outs', p ∈ mid) → wpList P ops Q (o :: l) ac w := by
      intro S outs' h hmid' hsubs
      have step' : ∀ {R' : List AVal} {S' : St} {E' : Env} {w' : World} {ac' : Act}, (R', S') ∈ outs' → VRs E' R' ac'.tmps.toList → Ok K E' S' X w' → ac'.defers = ac.defers → wpList P ops Q l ac' w' := fun hm => step (hsubs _ hm)
      unfold aopW at hmid'
      unfold wpList
      split at hmid'
      · simp at hmid'
      · rename_i hw
        rw [if_neg (by rw [awanted_sound h.x.conds hR hw]; simp)]
        simp only [Option.some.injEq] at hmid'; subst hmid'
        exact step' (List.mem_singleton.2 rfl) (putR_sound hR (by simp only [uv, VR])) h put_defers
      · rename_i hw
        rw [if_pos (awanted_sound h.x.conds hR hw)]
        left
        split at hmid'
        · rename_i v hrd
          simp only [Option.some.injEq] at hmid'; subst hmid'
          obtain ⟨y, g1, g2⟩ := aread_sound h (opR_sound hR) hrd
          unfold Oper.wp
          rw [g1, Oper.upon_value]
          exact step' (List.mem_singleton.2 rfl) (putR_sound hR g2) h put_defers
        · simp only [Option.map_eq_some_iff] at hmid'
          obtain ⟨os, hos, rfl⟩ := hmid'
          refine aeff_sound he hcl (CX := [ac.tmps.toList]) h (opR_sound hR) (by simp only [SR]; exact ⟨_, _, hR, rfl, rfl⟩) hos ?_
          intro v ctx' S' E' w' y hm hy hc' h'
          cases ctx' with
          | nil => simp only [SR] at hc'; cases hc'
          | cons R' rest =>
            simp only [SR, List.cons.injEq] at hc'
            obtain ⟨x, r, c1, c2, rfl, rfl⟩ := hc'
            cases rest with
            | cons c rest => simp only [SR] at c2; obtain ⟨_, _, _, _, hh⟩ := c2; cases hh
            | nil =>
              refine step' (R' := putR R' o.dst v) (S' := S') (List.mem_filterMap.2 ⟨(v, [R'], S'), hm, rfl⟩) ?_ h' put_defers
              exact putR_sound c1 hy
    unfold aop at hmid
    split at hmid
    · exact main h hmid fun _ hp => hp
    · rename_i t ht
      have hr : ∃ r, t.den E = some (.bool r) := by
        unfold splitTm at ht
        split at ht
        · exact guardTm_sound hR ht
        · exact pickTm_sound (opR_sound hR) ht
        · cases ht
      obtain ⟨r, hr⟩ := hr
      split at hmid
      · rename_i a b ha hb
        obtain rfl := Option.some.inj hmid
        cases r with
        | true => exact main (h.withC hr) ha fun _ hp => List.mem_append_left _ hp
        | false => exact main (h.withC hr) hb fun _ hp => List.mem_append_right _ hp
      · cases hmid

end Go.Eng

namespace Go.Eng
open Go.RowKit

variable {P : Program} {K : Fix} {E F : Env} {S S' : St} {X : List (List Value)} {w w' : World} {a b v : AVal} {x y : Value} {t s : TypeId} {l r : List AVal} {xs : List Value} {i j n off f : Nat}

mutual
def beqA : AVal → AVal → Bool
  | .top, .top => true
  | .tm k t, .tm j u => decide (k = j) && beqT t u
  | .lit x, .lit y => beqV 100 x y
  | .ptr b o, .ptr c p => decide (b = c) && decide (o = p)
  | .slice b o l m q, .slice b' o' l' m' q' => decide (b = b') && decide (o = o') && decide (l = l') && decide (m = m') && decide (q = q')
  | .map b, .map c => decide (b = c)
  | .func f p q, .func g p' q' => decide (f = g) && beqAs p p' && beqAs q q'
  | .iface t x, .iface u y => decide (t = u) && beqA x y
  | .agg l, .agg m => beqAs l m
  | .tuple l, .tuple m => beqAs l m
  | _, _ => false
def beqAs : List AVal → List AVal → Bool
  | [], [] => true
  | x :: l, y :: m => beqA x y && beqAs l m
  | _, _ => false
end

mutual
theorem beqA_eq : ∀ (x y : AVal), beqA x y = true → x = y
  | .top, y, h => by
    cases y <;> simp only [beqA, Bool.false_eq_true] at h
    rfl
  | .tm k t, y, h => by
    cases y <;> simp only [beqA, Bool.and_eq_true, decide_eq_true_eq, Bool.false_eq_true] at h
    rw [h.1, beqT_eq _ _ h.2]
  | .lit x, y, h => by
    cases y <;> simp only [beqA, Bool.false_eq_true] at h
    rw [beqV_eq _ _ _ h]
  | .ptr b o, y, h => by
    cases y <;> simp only [beqA, Bool.and_eq_true, decide_eq_true_eq, Bool.false_eq_true] at h
    rw [h.1, h.2]
  | .slice b o l m q, y, h => by
    cases y <;> simp only [beqA, Bool.and_eq_true, decide_eq_true_eq, Bool.false_eq_true] at h
    obtain ⟨⟨⟨⟨h1, h2⟩, h3⟩, h4⟩, h5⟩ := h
    rw [h1, h2, h3, h4, h5]
  | .map b, y, h => by
    cases y <;> simp only [beqA, decide_eq_true_eq, Bool.false_eq_true] at h
    rw [h]
  | .func f p q, y, h => by
    cases y <;> simp only [beqA, Bool.and_eq_true, decide_eq_true_eq, Bool.false_eq_true] at h
    obtain ⟨⟨h1, h2⟩, h3⟩ := h
    rw [h1, beqAs_eq _ _ h2, beqAs_eq _ _ h3]
  | .iface t x, y, h => by
    cases y <;> simp only [beqA, Bool.and_eq_true, decide_eq_true_eq, Bool.false_eq_true] at h
    rw [h.1, beqA_eq _ _ h.2]
  | .agg l, y, h => by
    cases y <;> simp only [beqA, Bool.false_eq_true] at h
    rw [beqAs_eq _ _ h]
  | .tuple l, y, h => by
    cases y <;> simp only [beqA, Bool.false_eq_true] at h
    rw [beqAs_eq _ _ h]
theorem beqAs_eq : ∀ (l m : List AVal), beqAs l m = true → l = m
  | [], [], _ => rfl
  | x :: l, y :: m, h => by
    simp only [beqAs, Bool.and_eq_true] at h
    rw [beqA_eq _ _ h.1, beqAs_eq _ _ h.2]
  | [], _ :: _, h => by simp [beqAs] at h
  | _ :: _, [], h => by simp [beqAs] at h
end

/-! ### a region whose order is open -/

def findDst (ops : List Oper) (t : Nat) : Option Nat := ops.findIdx? fun o => o.dst == some t

def predsOf (ops : List Oper) : List (List Nat) :=
  ops.foldl (fun acc o => acc ++ [((o.after.toList.filter (Region.binds .any)).flatMap fun e => e.on :: acc.getD e.on []).eraseDups]) []

def isW (o : Oper) : Bool :=
  match o.op with
  | .alloc _ | .box .. | .buildSlice .. | .store .. | .makeMap .. | .makeSlice .. | .mapUpdate .. | .insert .. | .mapEntry .. | .entryStore .. | .range .. | .next .. | .entry _ => true
  | .call { callee := .value _, .. } => true
  | .call { callee := .builtin .append, .. } | .call { callee := .builtin .delete, .. } | .call { callee := .builtin .copy, .. } | .call { callee := .builtin .clear, .. } => true
  | _ => false

def isSl (o : Oper) : Bool :=
  match o.op with
  | .slice .. => true
  | _ => false

def drawChk (ops : List Oper) (Bs : List (List Nat)) : Bool :=
  (List.range ops.length).all fun i =>
    match ops[i]? with
    | none => false
    | some o => (o.after.toList.all fun e => !(Region.binds .any e) || decide (e.on < i)) &&
      ((Bs.getD i []).all fun j => o.after.toList.any fun e => Region.binds .any e && (e.on == j || (Bs.getD e.on []).contains j)) &&
      (match o.dst with
        | some t => findDst ops t == some i
        | none => true)

def evAt (ev : List (Option AVal)) (j : Nat) : Option AVal := (ev[j]?).join

def opD (ops : List Oper) (Bs : List (List Nat)) (R : List AVal) (ev : List (Option AVal)) (i : Nat) : Operand → Option AVal
  | .tmp t =>
    match R[t]?, findDst ops t with
    | some r, none => noTop r
    | some r, some j => if (Bs.getD i []).contains j then (evAt ev j).bind noTop else if j == i || (Bs.getD j []).contains i then noTop r else none
    | none, _ => none
  | o => opR R o

def gAt (cs : Conds) (ops : List Oper) (Bs : List (List Nat)) (R : List AVal) (ev : List (Option AVal)) (i : Nat) (o : Oper) : Option Bool :=
  match o.guard with
  | none => some true
  | some (g, want) =>
    match (ops[g]?).bind (·.dst) with
    | some d => if (Bs.getD i []).contains g && (R[d]?).isSome then (evAt ev g).bind (isB cs want) else none
    | none => none

def quietVal (P : Program) (K : Glb) (ops : List Oper) (Bs : List (List Nat)) (R : List AVal) (ev : List (Option AVal)) (S : St) (i : Nat) (o : Oper) : Option AVal :=
  match gAt S.x.conds ops Bs R ev i o with
  | some false => some uv
  | some true => if isW o then none else aread P K S (opD ops Bs R ev i) o
  | none => none

def ready (Bs : List (List Nat)) (ev : List (Option AVal)) (i : Nat) : Bool := (Bs.getD i []).all fun j => (evAt ev j).isSome

def satStep (P : Program) (K : Glb) (ops : List Oper) (Bs : List (List Nat)) (R : List AVal) (S : St) (ev : List (Option AVal)) (i : Nat) : List (Option AVal) :=
  match evAt ev i, ops[i]? with
  | none, some o => if ready Bs ev i then (match quietVal P K ops Bs R ev S i o with
      | some v => ev.set i (some v)
      | none => ev) else ev
  | _, _ => ev

def saturate (P : Program) (K : Glb) (ops : List Oper) (Bs : List (List Nat)) (R : List AVal) (S : St) (ev : List (Option AVal)) : List (Option AVal) :=
  (List.range ops.length).foldl (satStep P K ops Bs R S) ev

def goChk (P : Program) (K : Glb) (ops : List Oper) (Bs : List (List Nat)) (R : List AVal) (S : St) (ex : List Nat) (ev : List (Option AVal)) : Bool :=
  (List.range ops.length).all fun i =>
    match ops[i]? with
    | none => false
    | some o =>
      match evAt ev i with
      | some v => ex.contains i || (match quietVal P K ops Bs R ev S i o with
          | some u => beqA v u
          | none => false)
      | none => !(ready Bs ev i) || (gAt S.x.conds ops Bs R ev i o == some true && isW o)

def finR (ops : List Oper) (R : List AVal) (ev : List (Option AVal)) : List AVal :=
  R.mapIdx fun t r => match findDst ops t with
    | some j => (evAt ev j).getD r
    | none => r

/-- What is held meanwhile, of values that are known so far. -/
def evList (ev : List (Option AVal)) : List AVal := ev.map fun o => o.getD uv
def evBack (ev : List (Option AVal)) (l : List AVal) : List (Option AVal) := List.zipWith (fun o v => o.map fun _ => v) ev l

/-- The condition of an operation whose turn may have come, where it isn't known. -/
def gTmAt (cs : Conds) (ops : List Oper) (Bs : List (List Nat)) (R : List AVal) (ev : List (Option AVal)) (i : Nat) (o : Oper) : Option Tm :=
  match o.guard with
  | none => pickTm cs (opD ops Bs R ev i) o
  | some (g, _) => match evAt ev g with
    | some (.tm .bool t) => some t
    | _ => if gAt cs ops Bs R ev i o == some true then pickTm cs (opD ops Bs R ev i) o else none

def undec (cs : Conds) (ops : List Oper) (Bs : List (List Nat)) (R : List AVal) (ev : List (Option AVal)) : Option Tm :=
  (List.range ops.length).findSome? fun i => if (evAt ev i).isNone && ready Bs ev i then (ops[i]?).bind (gTmAt cs ops Bs R ev i) else none

def normE (cs : Conds) (ev : List (Option AVal)) : List (Option AVal) := ev.map fun o => o.map (norm cs)

end Go.Eng

namespace Go.Eng
open Go.RowKit

variable {P : Program} {K : Fix} {E F : Env} {S S' : St} {X : List (List Value)} {w w' : World} {a b v : AVal} {x y : Value} {t s : TypeId} {l r : List AVal} {xs : List Value} {i j n off f : Nat}

/-! ### names anew: what nothing leads to is let go -/

structure Rnm where
  ids : List Nat
  qs : List Nat

def place (l : List Nat) (b : Nat) : Option Nat := l.findIdx? (· == b)

theorem place_get {l : List Nat} {b c : Nat} (h : place l b = some c) : l[c]? = some b := by
  unfold place at h
  obtain ⟨hlt, h1, _⟩ := List.findIdx?_eq_some_iff_getElem.1 h
  simp only [beq_iff_eq] at h1
  simp [hlt, h1]

def Rnm.env (N : Rnm) (E : Env) : Env := { E with rho := fun b => (N.ids[b]?).bind E.rho, kap := fun q => (N.qs[q]?).bind E.kap }

mutual
def ren (N : Rnm) : AVal → Option AVal
  | .top => some .top
  | .tm k t => some (.tm k t)
  | .lit v => some (.lit v)
  | .ptr b off => (place N.ids b).map fun c => .ptr c off
  | .slice b off len m none => (place N.ids b).map fun c => .slice c off len m none
  | .slice b off len m (some q) => match place N.ids b, place N.qs q with
    | some c, some p => some (.slice c off len m (some p))
    | _, _ => none
  | .map b => (place N.ids b).map .map
  | .func fn f g => match rens N f, rens N g with
    | some f, some g => some (.func fn f g)
    | _, _ => none
  | .iface t v => (ren N v).map (.iface t)
  | .agg l => (rens N l).map .agg
  | .tuple l => (rens N l).map .tuple
def rens (N : Rnm) : List AVal → Option (List AVal)
  | [] => some []
  | a :: l => match ren N a, rens N l with
    | some b, some m => some (b :: m)
    | _, _ => none
end

theorem rho_env {N : Rnm} {b c d : Nat} (h : place N.ids b = some c) (hb : E.rho b = some d) : (N.env E).rho c = some d := by
  simp only [Rnm.env, place_get h, Option.bind_some, hb]
theorem kap_env {N : Rnm} {b c d : Nat} (h : place N.qs b = some c) (hb : E.kap b = some d) : (N.env E).kap c = some d := by
  simp only [Rnm.env, place_get h, Option.bind_some, hb]

theorem den_env {N : Rnm} (t : Tm) : Tm.den (N.env E) t = Tm.den E t := den_same (F := N.env E) (E := E) rfl rfl t

theorem TR_env {N : Rnm} {k : TK} {u : Tm} {x : Value} (h : TR E k u x) : TR (N.env E) k u x := by
  cases k <;> simp only [TR, den_env] at h ⊢ <;> exact h

mutual
theorem ren_sound {N : Rnm} : ∀ {a a' : AVal} {x : Value}, ren N a = some a' → VR E a x → VR (N.env E) a' x
  | .top, a', x, h, r => by
    simp only [ren, Option.some.injEq] at h; subst h; simp only [VR]
  | .tm k t, a', x, h, r => by
    simp only [ren, Option.some.injEq] at h; subst h; simp only [VR] at r ⊢; exact TR_env r
  | .lit v, a', x, h, r => by
    simp only [ren, Option.some.injEq] at h; subst h; simpa only [VR] using r
  | .ptr b off, a', x, h, r => by
    simp only [ren, Option.map_eq_some_iff] at h; obtain ⟨c, hc, rfl⟩ := h
    simp only [VR] at r ⊢; obtain ⟨d, h1, h2⟩ := r
    exact ⟨d, rho_env hc h1, h2⟩
  | .slice b off len m none, a', x, h, r => by
    simp only [ren, Option.map_eq_some_iff] at h; obtain ⟨c, hc, rfl⟩ := h
    simp only [VR] at r ⊢; obtain ⟨d, k, h1, h2, h3⟩ := r
    exact ⟨d, k, rho_env hc h1, h2, h3⟩
  | .slice b off len m (some q), a', x, h, r => by
    simp only [ren] at h
    split at h
    · rename_i c p hc hp
      simp only [Option.some.injEq] at h; subst h
      simp only [VR] at r ⊢; obtain ⟨d, k, h1, ⟨n, k1, k2, k3⟩, h3⟩ := r
      exact ⟨d, k, rho_env hc h1, ⟨n, kap_env hp k1, k2, k3⟩, h3⟩
    · simp at h
  | .map b, a', x, h, r => by
    simp only [ren, Option.map_eq_some_iff] at h; obtain ⟨c, hc, rfl⟩ := h
    simp only [VR] at r ⊢; obtain ⟨d, h1, h2⟩ := r
    exact ⟨d, rho_env hc h1, h2⟩
  | .func fn f g, a', x, h, r => by
    simp only [ren] at h
    split at h
    · rename_i f' g' hf hg
      simp only [Option.some.injEq] at h; subst h
      simp only [VR] at r ⊢; obtain ⟨fs, gs, h1, h2, h3⟩ := r
      exact ⟨fs, gs, rens_sound hf h1, rens_sound hg h2, h3⟩
    · simp at h
  | .iface t v, a', x, h, r => by
    simp only [ren, Option.map_eq_some_iff] at h; obtain ⟨c, hc, rfl⟩ := h
    simp only [VR] at r ⊢; obtain ⟨d, h1, h2⟩ := r
    exact ⟨d, ren_sound hc h1, h2⟩
  | .agg l, a', x, h, r => by
    simp only [ren, Option.map_eq_some_iff] at h; obtain ⟨c, hc, rfl⟩ := h
    simp only [VR] at r ⊢; obtain ⟨d, h1, h2⟩ := r
    exact ⟨d, rens_sound hc h1, h2⟩
  | .tuple l, a', x, h, r => by
    simp only [ren, Option.map_eq_some_iff] at h; obtain ⟨c, hc, rfl⟩ := h
    simp only [VR] at r ⊢; obtain ⟨d, h1, h2⟩ := r
    exact ⟨d, rens_sound hc h1, h2⟩
theorem rens_sound {N : Rnm} : ∀ {l l' : List AVal} {xs : List Value}, rens N l = some l' → VRs E l xs → VRs (N.env E) l' xs
  | [], l', xs, h, r => by
    simp only [rens, Option.some.injEq] at h; subst h; simpa only [VRs] using r
  | a :: l, l', xs, h, r => by
    simp only [rens] at h
    split at h
    · rename_i b m hb hm
      simp only [Option.some.injEq] at h; subst h
      simp only [VRs] at r ⊢; obtain ⟨x, s, h1, h2, h3⟩ := r
      exact ⟨x, s, ren_sound hb h1, rens_sound hm h2, h3⟩
    · simp at h
end

def renEs (N : Rnm) : List AEnt → Option (List AEnt)
  | [] => some []
  | e :: l => match ren N e.key, ren N e.val, renEs N l with
    | some k, some v, some m => some (⟨k, v, e.born⟩ :: m)
    | _, _, _ => none

theorem renEs_sound {N : Rnm} : ∀ {l l' : List AEnt} {ms : List MapEntry}, renEs N l = some l' → ER E l ms → ER (N.env E) l' ms
  | [], l', ms, h, r => by
    simp only [renEs, Option.some.injEq] at h; subst h; simpa only [ER] using r
  | e :: l, l', ms, h, r => by
    simp only [renEs] at h
    split at h
    · rename_i k v m hk hv hm
      simp only [Option.some.injEq] at h; subst h
      simp only [ER] at r ⊢; obtain ⟨x, s, h1, h2, h3, h4, h5⟩ := r
      exact ⟨x, s, ren_sound hk h1, ren_sound hv h2, h3, renEs_sound hm h4, h5⟩
    · simp at h

def renO (N : Rnm) : AObj → Option AObj
  | .cells l e fz none => (rens N l).map fun l => .cells l e fz none
  | .cells l e fz (some (q, s)) => match rens N l, place N.qs q with
    | some l, some p => some (.cells l e fz (some (p, s)))
    | _, _ => none
  | .map es c => (renEs N es).map fun es => .map es c
  | .iter none a b c => some (.iter none a b c)
  | .iter (some m) a b c => (place N.ids m).map fun p => .iter (some p) a b c
  | .raw o => some (.raw o)

theorem renO_sound {N : Rnm} {o o' : AObj} {u : Obj} (h : renO N o = some o') (r : OR E o u) : OR (N.env E) o' u := by
  unfold renO at h
  split at h
  · simp only [Option.map_eq_some_iff] at h; obtain ⟨l', hl, rfl⟩ := h
    obtain ⟨xs, h1, h2⟩ := r
    exact ⟨xs, rens_sound hl h1, h2⟩
  · split at h
    · rename_i l' p hl hp
      simp only [Option.some.injEq] at h; subst h
      obtain ⟨xs, tl, n, h1, h2, h3, h4⟩ := r
      exact ⟨xs, tl, n, rens_sound hl h1, kap_env hp h2, h3, h4⟩
    · simp at h
  · simp only [Option.map_eq_some_iff] at h; obtain ⟨l', hl, rfl⟩ := h
    obtain ⟨xs, h1, h2⟩ := r
    exact ⟨xs, renEs_sound hl h1, h2⟩
  · simp only [Option.some.injEq] at h; subst h; 
    obtain ⟨c, h1, h2⟩ := r
    exact ⟨c, h1, h2⟩
  · simp only [Option.map_eq_some_iff] at h; obtain ⟨p, hp, rfl⟩ := h
    obtain ⟨c, ⟨d, h1, h3⟩, h2⟩ := r
    exact ⟨c, ⟨d, rho_env hp h1, h3⟩, h2⟩
  · simp only [Option.some.injEq] at h; subst h; exact r

def renHeap (N : Rnm) (H : List AObj) : List Nat → Option (List AObj)
  | [] => some []
  | b :: l => match (H[b]?).bind (renO N), renHeap N H l with
    | some o, some m => some (o :: m)
    | _, _ => none

theorem renHeap_get {N : Rnm} {H : List AObj} : ∀ {l : List Nat} {H' : List AObj} {k : Nat} {o' : AObj}, renHeap N H l = some H' → H'[k]? = some o' → ∃ b o, l[k]? = some b ∧ H[b]? = some o ∧ renO N o = some o'
  | [], H', k, o', h, hk => by simp only [renHeap, Option.some.injEq] at h; subst h; simp at hk
  | b :: l, H', k, o', h, hk => by
    simp only [renHeap] at h
    split at h
    · rename_i o m ho hm
      simp only [Option.some.injEq] at h; subst h
      cases k with
      | zero =>
        simp at hk; subst hk
        simp only [Option.bind_eq_some_iff] at ho
        obtain ⟨u, h1, h2⟩ := ho
        exact ⟨b, u, by simp, h1, h2⟩
      | succ k => simp at hk; simpa using renHeap_get hm hk
    · simp at h
theorem renHeap_length {N : Rnm} {H : List AObj} : ∀ {l : List Nat} {H' : List AObj}, renHeap N H l = some H' → H'.length = l.length
  | [], H', h => by simp only [renHeap, Option.some.injEq] at h; subst h; rfl
  | b :: l, H', h => by
    simp only [renHeap] at h
    split at h
    · rename_i o m ho hm
      simp only [Option.some.injEq] at h; subst h
      simp [renHeap_length hm]
    · simp at h

def renCaps (cs : List Nat) : List Nat → Option (List Nat)
  | [] => some []
  | q :: l => match cs[q]?, renCaps cs l with
    | some c, some m => some (c :: m)
    | _, _ => none
theorem renCaps_get {cs : List Nat} : ∀ {l : List Nat} {r : List Nat} {k c : Nat}, renCaps cs l = some r → r[k]? = some c → ∃ q, l[k]? = some q ∧ cs[q]? = some c
  | [], r, k, c, h, hk => by simp only [renCaps, Option.some.injEq] at h; subst h; simp at hk
  | q :: l, r, k, c, h, hk => by
    simp only [renCaps] at h
    split at h
    · rename_i o m ho hm
      simp only [Option.some.injEq] at h; subst h
      cases k with
      | zero => simp at hk; subst hk; exact ⟨q, by simp, ho⟩
      | succ k => simp at hk; simpa using renCaps_get hm hk
    · simp at h
theorem renCaps_length {cs : List Nat} : ∀ {l r : List Nat}, renCaps cs l = some r → r.length = l.length
  | [], r, h => by simp only [renCaps, Option.some.injEq] at h; subst h; rfl
  | q :: l, r, h => by
    simp only [renCaps] at h
    split at h
    · rename_i o m ho hm
      simp only [Option.some.injEq] at h; subst h
      simp [renCaps_length hm]
    · simp at h

def renStk (N : Rnm) : List (List AVal) → Option (List (List AVal))
  | [] => some []
  | a :: l => match rens N a, renStk N l with
    | some b, some m => some (b :: m)
    | _, _ => none
theorem renStk_sound {N : Rnm} : ∀ {l l' : List (List AVal)} {X : List (List Value)}, renStk N l = some l' → SR E l X → SR (N.env E) l' X
  | [], l', X, h, r => by simp only [renStk, Option.some.injEq] at h; subst h; simpa only [SR] using r
  | a :: l, l', X, h, r => by
    simp only [renStk] at h
    split at h
    · rename_i b m hb hm
      simp only [Option.some.injEq] at h; subst h
      simp only [SR] at r ⊢; obtain ⟨x, s, h1, h2, h3⟩ := r
      exact ⟨x, s, rens_sound hb h1, renStk_sound hm h2, h3⟩
    · simp at h

def nodup : List Nat → Bool
  | [] => true
  | x :: l => !l.contains x && nodup l
theorem nodup_sound : ∀ {l : List Nat}, nodup l = true → ∀ {i j : Nat} {x : Nat}, l[i]? = some x → l[j]? = some x → i = j
  | [], _, i, j, x, h, _ => by simp at h
  | y :: l, h, i, j, x, hi, hj => by
    simp only [nodup, Bool.and_eq_true, Bool.not_eq_true', List.contains_eq_mem, decide_eq_false_iff_not] at h
    cases i with
    | zero =>
      simp at hi; subst hi
      cases j with
      | zero => rfl
      | succ j => simp at hj; exact absurd (List.mem_of_getElem? hj) h.1
    | succ i =>
      simp at hi
      cases j with
      | zero => simp at hj; subst hj; exact absurd (List.mem_of_getElem? hi) h.1
      | succ j => simp at hj; rw [nodup_sound h.2 hi hj]

def gcBy (N : Rnm) (p : AVal × St) : Option (AVal × St) :=
  if nodup N.ids = true then
    match ren N p.1, renHeap N p.2.heap N.ids, renCaps p.2.caps N.qs, renStk N p.2.stk with
    | some v, some h, some c, some k => some (v, { heap := h, caps := c, stk := k, x := p.2.x })
    | _, _, _, _ => none
  else none

theorem gcBy_sound {N : Rnm} (h : Ok K E S X w) (hv : VR E v x) (hg : gcBy N (v, S) = some (b, S')) : ∃ E', VR E' b x ∧ Ok K E' S' X w := by
  unfold gcBy at hg
  split at hg
  · rename_i hnd
    split at hg
    · rename_i v' H' c' k' h1 h2 h3 h4
      simp only [Option.some.injEq, Prod.mk.injEq] at hg; obtain ⟨rfl, rfl⟩ := hg
      refine ⟨N.env E, ren_sound h1 hv, ?_⟩
      constructor
      · intro q hq
        simp only [renHeap_length h2]
        simp only [Rnm.env] at hq
        rcases Nat.lt_or_ge q N.ids.length with g | g
        · exact g
        · rw [List.getElem?_eq_none g] at hq; cases hq
      · intro q o hq
        obtain ⟨bb, oo, e1, e2, e3⟩ := renHeap_get h2 hq
        obtain ⟨c, u, g1, g2, g3, g4⟩ := h.obj bb oo e2
        exact ⟨c, u, by simp only [Rnm.env, e1, Option.bind_some, g1], g2, g3, renO_sound e3 g4⟩
      · intro q q' c hq hq'
        simp only [Rnm.env, Option.bind_eq_some_iff] at hq hq'
        obtain ⟨bb, e1, e2⟩ := hq
        obtain ⟨b2, e3, e4⟩ := hq'
        have := h.inj _ _ _ e2 e4
        subst this
        exact nodup_sound hnd e1 e3
      · intro q hq
        simp only [renCaps_length h3]
        simp only [Rnm.env] at hq
        rcases Nat.lt_or_ge q N.qs.length with g | g
        · exact g
        · rw [List.getElem?_eq_none g] at hq; cases hq
      · intro q lo hq
        obtain ⟨p, e1, e2⟩ := renCaps_get h3 hq
        obtain ⟨n, g1, g2⟩ := h.lb p lo e2
        exact ⟨n, by simp only [Rnm.env, e1, Option.bind_some, g1], g2⟩
      · exact h.below
      · exact h.base
      · exact renStk_sound h4 h.stk
      · refine h.x.move rfl rfl rfl rfl (fun b c hb => .inl ?_) (Nat.le_refl _) fun _ _ _ => rfl
        simp only [Rnm.env, Option.bind_eq_some_iff] at hb
        obtain ⟨b', _, h2⟩ := hb
        exact ⟨b', h2⟩
    · simp at hg
  · simp at hg

/-! which names are led to -/
mutual
def namesV : AVal → List Nat × List Nat
  | .top => ([], [])
  | .tm .. => ([], [])
  | .lit _ => ([], [])
  | .ptr b _ => ([b], [])
  | .slice b _ _ _ none => ([b], [])
  | .slice b _ _ _ (some q) => ([b], [q])
  | .map b => ([b], [])
  | .func _ f g => let p := namesL f; let q := namesL g; (p.1 ++ q.1, p.2 ++ q.2)
  | .iface _ v => namesV v
  | .agg l => namesL l
  | .tuple l => namesL l
def namesL : List AVal → List Nat × List Nat
  | [] => ([], [])
  | a :: l => let p := namesV a; let q := namesL l; (p.1 ++ q.1, p.2 ++ q.2)
end
def namesE : List AEnt → List Nat × List Nat
  | [] => ([], [])
  | e :: l => let p := namesV e.key; let q := namesV e.val; let r := namesE l; (p.1 ++ q.1 ++ r.1, p.2 ++ q.2 ++ r.2)
def namesO : AObj → List Nat × List Nat
  | .cells l _ _ none => namesL l
  | .cells l _ _ (some (q, _)) => let p := namesL l; (p.1, q :: p.2)
  | .map es _ => namesE es
  | .iter (some m) _ _ _ => ([m], [])
  | _ => ([], [])
def namesS : List (List AVal) → List Nat × List Nat
  | [] => ([], [])
  | a :: l => let p := namesL a; let q := namesS l; (p.1 ++ q.1, p.2 ++ q.2)

def addNew : List Nat → List Nat → List Nat
  | [], s => s
  | x :: l, s => if s.contains x then addNew l s else addNew l (s ++ [x])

def reach (H : List AObj) : Nat → List Nat → List Nat → List Nat → List Nat × List Nat
  | 0, _, s, q => (s, q)
  | _, [], s, q => (s, q)
  | n + 1, b :: l, s, q =>
    if s.contains b then reach H n l s q
    else match H[b]? with
      | some o => let p := namesO o; reach H n (p.1 ++ l) (s ++ [b]) (addNew p.2 q)
      | none => reach H n l (s ++ [b]) q

def renOf (p : AVal × St) : Rnm :=
  let r := namesV p.1
  let k := namesS p.2.stk
  let z := reach p.2.heap 100000 (r.1 ++ k.1) [] (addNew (r.2 ++ k.2) [])
  ⟨z.1, z.2⟩

def gc (p : AVal × St) : AVal × St := (gcBy (renOf p) p).getD p

theorem gc_sound (h : Ok K E S X w) (hv : VR E v x) : ∃ E', VR E' (gc (v, S)).1 x ∧ Ok K E' (gc (v, S)).2 X w := by
  unfold gc
  cases hg : gcBy (renOf (v, S)) (v, S) with
  | none => exact ⟨E, hv, h⟩
  | some q => obtain ⟨b, S'⟩ := q; exact gcBy_sound h hv hg

def beqE : List AEnt → List AEnt → Bool := allSame fun a b => beqA a.key b.key && beqA a.val b.val && decide (a.born = b.born)
def beqO : AObj → AObj → Bool
  | .cells l e fz op, .cells l' e' fz' op' => beqAs l l' && decide (e = e') && decide (fz = fz') && decide (op = op')
  | .map es c, .map es' c' => beqE es es' && decide (c = c')
  | .iter m a b c, .iter m' a' b' c' => decide (m = m') && decide (a = a') && decide (b = b') && decide (c = c')
  | _, _ => false
def beqOb (a b : AOb) : Bool := decide (a.kind = b.kind) && beqT a.h b.h && beqTs a.gs b.gs
theorem beqOb_eq (a b : AOb) (h : beqOb a b = true) : a = b := by
  cases a; cases b
  simp only [beqOb, Bool.and_eq_true, decide_eq_true_eq] at h
  rw [h.1.1, beqT_eq _ _ h.1.2, beqTs_eq _ _ h.2]
def beqC (a b : Tm × Bool) : Bool := beqT a.1 b.1 && a.2 == b.2
theorem beqC_eq (a b : Tm × Bool) (h : beqC a b = true) : a = b := by
  cases a; cases b
  simp only [beqC, Bool.and_eq_true, beq_iff_eq] at h
  rw [beqT_eq _ _ h.1, h.2]
def beqX (a b : Sx) : Bool := allSame beqOb a.objs b.objs && allSame beqC a.conds b.conds && decide (a.nv = b.nv)
theorem beqX_eq (a b : Sx) (h : beqX a b = true) : a = b := by
  cases a; cases b
  simp only [beqX, Bool.and_eq_true, decide_eq_true_eq] at h
  rw [allSame_eq beqOb_eq h.1.1, allSame_eq beqC_eq h.1.2, h.2]

def beqP (p q : AVal × St) : Bool := beqA p.1 q.1 && allSame beqO p.2.heap q.2.heap && decide (p.2.caps = q.2.caps) && allSame beqAs p.2.stk q.2.stk && beqX p.2.x q.2.x

theorem beqO_eq (a b : AObj) (h : beqO a b = true) : a = b := by
  unfold beqO at h
  split at h
  · simp only [Bool.and_eq_true, decide_eq_true_eq] at h
    obtain ⟨⟨⟨h1, h2⟩, h3⟩, h4⟩ := h
    rw [beqAs_eq _ _ h1, h2, h3, h4]
  · simp only [Bool.and_eq_true, decide_eq_true_eq] at h
    rw [allSame_eq (fun x y hh => by
      simp only [Bool.and_eq_true, decide_eq_true_eq] at hh
      cases x; cases y
      simp only at hh
      rw [beqA_eq _ _ hh.1.1, beqA_eq _ _ hh.1.2, hh.2]) h.1, h.2]
  · simp only [Bool.and_eq_true, decide_eq_true_eq] at h
    obtain ⟨⟨⟨h1, h2⟩, h3⟩, h4⟩ := h
    rw [h1, h2, h3, h4]
  · cases h

theorem beqP_eq (p q : AVal × St) (h : beqP p q = true) : p = q := by
  obtain ⟨v, H, c, k, z⟩ := p
  obtain ⟨v', H', c', k', z'⟩ := q
  simp only [beqP, Bool.and_eq_true, decide_eq_true_eq] at h
  obtain ⟨⟨⟨⟨h1, h2⟩, h3⟩, h4⟩, h5⟩ := h
  rw [beqA_eq _ _ h1, allSame_eq beqO_eq h2, h3, allSame_eq (fun x y hh => beqAs_eq x y hh) h4, beqX_eq _ _ h5]

def dedup (f : AVal × St → AVal × St → Bool) : List (AVal × St) → List (AVal × St)
  | [] => []
  | p :: l => let r := dedup f l; if r.any (f p) then r else p :: r

theorem dedup_mem {p : AVal × St} : ∀ {l : List (AVal × St)}, p ∈ l → p ∈ dedup beqP l
  | q :: l, h => by
    simp only [dedup]
    rcases List.mem_cons.1 h with rfl | h
    · split
      · rename_i ha
        obtain ⟨q, h1, h2⟩ := List.any_eq_true.1 ha
        rw [beqP_eq _ _ h2]; exact h1
      · simp
    · have := dedup_mem h
      split
      · exact this
      · exact List.mem_cons_of_mem _ this

def merge : List (AVal × St) → List (AVal × St)
  | [p] => if p.2.heap.length ≤ 120 then [p] else [gc p]
  | l => dedup beqP (l.map gc)

theorem merge_sound {outs : List (AVal × St)} (h : Ok K E S X w) (hv : VR E v x) (hm : (v, S) ∈ outs) : ∃ v' S' E', (v', S') ∈ merge outs ∧ VR E' v' x ∧ Ok K E' S' X w := by
  obtain ⟨E', g1, g2⟩ := gc_sound h hv
  have hd : ∃ v' S' E', (v', S') ∈ dedup beqP (outs.map gc) ∧ VR E' v' x ∧ Ok K E' S' X w := ⟨_, _, E', dedup_mem (List.mem_map.2 ⟨(v, S), hm, rfl⟩), g1, g2⟩
  match outs, hm, hd with
  | [p], hm, hd =>
    rw [List.mem_singleton] at hm
    subst hm
    by_cases hc : S.heap.length ≤ 120
    · refine ⟨v, S, E, ?_, hv, h⟩
      show (v, S) ∈ (if S.heap.length ≤ 120 then [(v, S)] else [gc (v, S)])
      rw [if_pos hc]; exact List.mem_singleton.2 rfl
    · refine ⟨_, _, E', ?_, g1, g2⟩
      show ((gc (v, S)).1, (gc (v, S)).2) ∈ (if S.heap.length ≤ 120 then [(v, S)] else [gc (v, S)])
      rw [if_neg hc]; exact List.mem_singleton.2 rfl
  | [], hm, hd => cases hm
  | p :: q :: l, hm, hd => exact hd

end Go.Eng

namespace Go.Eng
open Go.RowKit

variable {P : Program} {K : Fix} {E F : Env} {S S' : St} {X : List (List Value)} {w w' : World} {a b v : AVal} {x y : Value} {t s : TypeId} {l r : List AVal} {xs : List Value} {i j n off f : Nat}

theorem VRs.getR : ∀ {l : List AVal} {xs : List Value} {i : Nat} {x : Value}, VRs E l xs → xs[i]? = some x → ∃ a, l[i]? = some a ∧ VR E a x
  | [], xs, i, x, r, h => by simp only [VRs] at r; subst r; simp at h
  | b :: l, xs, i, x, r, h => by
    simp only [VRs] at r; obtain ⟨y, s, h1, h2, h3⟩ := r
    subst h3
    cases i with
    | zero => simp at h; subst h; exact ⟨b, by simp, h1⟩
    | succ i => simp at h; simpa using VRs.getR h2 h

theorem VRs.mk : ∀ {l : List AVal} {xs : List Value}, l.length = xs.length → (∀ (i : Nat) (a : AVal) (x : Value), l[i]? = some a → xs[i]? = some x → VR E a x) → VRs E l xs
  | [], xs, h, _ => by cases xs <;> simp_all [VRs]
  | a :: l, [], h, _ => by simp at h
  | a :: l, x :: xs, h, k => VRs.cons (k 0 a x (by simp) (by simp)) (VRs.mk (by simpa using h) fun i b y h1 h2 => k (i + 1) b y (by simpa using h1) (by simpa using h2))

/-- What a register holds in the midst of a region. -/
def curX (ops : List Oper) (listed : Array Bool) (XE : List Value) (t : Nat) (r : Value) : Value :=
  match findDst ops t with
  | some j => if listed.getD j false = true then XE.getD j undef else r
  | none => r

theorem findDst_some {ops : List Oper} {t j : Nat} (h : findDst ops t = some j) : ∃ o, ops[j]? = some o ∧ o.dst = some t := by
  unfold findDst at h
  obtain ⟨hlt, h1, _⟩ := List.findIdx?_eq_some_iff_getElem.1 h
  exact ⟨ops[j], by simp [hlt], by simpa using h1⟩

theorem getD_set_ne {listed : Array Bool} {i j : Nat} {b : Bool} (h : i ≠ j) : (listed.setIfInBounds i true).getD j b = listed.getD j b := by
  simp [Array.getD_eq_getD_getElem?, Array.getElem?_setIfInBounds_ne h]
theorem getD_set_self {listed : Array Bool} {i : Nat} {b : Bool} (h : i < listed.size) : (listed.setIfInBounds i true).getD i b = true := by
  simp [Array.getD_eq_getD_getElem?, h]

theorem cur_put {ops : List Oper} {listed : Array Bool} {XR XE XE' : List Value} {ac : Act} {o : Oper} (hcur : ∀ t : Nat, ac.tmps[t]? = (XR[t]?).map (curX ops listed XE t))
    (hi : ops[i]? = some o) (hlt : i < listed.size) (hdst : ∀ t, o.dst = some t → findDst ops t = some i) (hy : XE'.getD i undef = y) (hag : ∀ j, listed.getD j false = true → XE'.getD j undef = XE.getD j undef) :
    ∀ t : Nat, (ac.put o.dst y).tmps[t]? = (XR[t]?).map (curX ops (listed.setIfInBounds i true) XE' t) := by
  intro t
  have huniq : findDst ops t = some i → o.dst = some t := by
    intro h
    obtain ⟨o', h1, h2⟩ := findDst_some h
    rw [hi] at h1; obtain rfl := Option.some.inj h1; exact h2
  have hsame : o.dst ≠ some t → ∀ r, curX ops (listed.setIfInBounds i true) XE' t r = curX ops listed XE t r := by
    intro hne r
    unfold curX
    split
    · rename_i j hj
      have hji : i ≠ j := by rintro rfl; exact hne (huniq hj)
      rw [getD_set_ne hji]
      split
      · rename_i hl; exact hag j hl
      · rfl
    · rfl
  by_cases hd : o.dst = some t
  · have hf := hdst t hd
    rw [hd]
    simp only [Act.put, Array.getElem?_setIfInBounds, if_true]
    have hc := hcur t
    cases hx : XR[t]? with
    | none =>
      rw [hx] at hc
      have hsz : ac.tmps.size ≤ t := by simpa using hc
      simp; omega
    | some r =>
      rw [hx] at hc
      have hsz : t < ac.tmps.size := by
        simp only [Option.map_some] at hc
        exact (Array.getElem?_eq_some_iff.1 hc).1
      simp only [hsz, if_true, Option.map_some, curX, hf, getD_set_self hlt, hy]
  · have h2 : (ac.put o.dst y).tmps[t]? = ac.tmps[t]? := by
      cases ho : o.dst with
      | none => rfl
      | some d =>
        simp only [Act.put]
        rw [Array.getElem?_setIfInBounds_ne]
        rintro rfl; exact hd ho
    rw [h2, hcur t]
    cases XR[t]? with
    | none => rfl
    | some r => simp only [Option.map_some, hsame hd r]

theorem eval_tmp {ac : Act} {t : Nat} (h : ac.tmps[t]? = some x) : ac.eval (.tmp t) = x := by
  simp [Act.eval, Array.getD_eq_getD_getElem?, h]

theorem evList_get {ev : List (Option AVal)} (h : evAt ev j = some v) : (evList ev)[j]? = some v := by
  unfold evAt at h
  unfold evList
  rw [List.getElem?_map]
  cases he : ev[j]? with
  | none => rw [he] at h; cases h
  | some o => rw [he] at h; simp only [Option.join_some] at h; subst h; rfl

theorem getD_of {XE : List Value} (h : XE[j]? = some x) : XE.getD j undef = x := by simp [List.getD, h]

/-- The operands of an operation whose turn may have come. -/
theorem opD_sound {ops : List Oper} {Bs : List (List Nat)} {R : List AVal} {ev : List (Option AVal)} {listed : Array Bool} {XR XE : List Value} {ac : Act} (rR : VRs E R XR) (rE : VRs E (evList ev) XE)
    (hcur : ∀ t : Nat, ac.tmps[t]? = (XR[t]?).map (curX ops listed XE t)) (hun : listed.getD i false = false) (hB : ∀ j ∈ Bs.getD i [], listed.getD j false = true)
    (hcl : ∀ j, listed.getD j false = true → ∀ k ∈ Bs.getD j [], listed.getD k false = true) : EvR E (opD ops Bs R ev i) ac.eval := by
  intro o v ho
  cases o with
  | tmp t =>
    simp only [opD] at ho
    split at ho
    · rename_i r hr hf
      obtain ⟨rfl, _⟩ := noTop_some ho
      obtain ⟨x, h1, h2⟩ := rR.get hr
      have := hcur t
      rw [h1] at this
      simp only [Option.map_some, curX, hf] at this
      rw [eval_tmp this]; exact h2
    · rename_i r jj hr hf
      obtain ⟨x, h1, h2⟩ := rR.get hr
      have hc := hcur t
      rw [h1] at hc
      simp only [Option.map_some, curX, hf] at hc
      split at ho
      · rename_i hcon
        have hl := hB jj (by simpa using hcon)
        rw [hl] at hc
        simp only [if_true] at hc
        simp only [Option.bind_eq_some_iff] at ho
        obtain ⟨v', ho, hnt⟩ := ho
        obtain ⟨rfl, _⟩ := noTop_some hnt
        obtain ⟨z, g1, g2⟩ := rE.get (evList_get ho)
        rw [getD_of g1] at hc
        rw [eval_tmp hc]; exact g2
      · split at ho
        · rename_i hcon
          obtain ⟨rfl, _⟩ := noTop_some ho
          have hl : listed.getD jj false = false := by
            simp only [Bool.or_eq_true, beq_iff_eq] at hcon
            rcases hcon with rfl | hcon
            · exact hun
            · cases hh : listed.getD jj false with
              | false => rfl
              | true =>
                have := hcl jj hh i (by simpa using hcon)
                rw [hun] at this; cases this
          rw [hl] at hc
          simp only [Bool.false_eq_true, if_false] at hc
          rw [eval_tmp hc]; exact h2
        · simp at ho
    · simp at ho
  | const c => simp only [opD, opR, Option.some.injEq] at ho; subst ho; simp only [VR, Act.eval]
  | global g => simp only [opD, opR, Option.some.injEq] at ho; subst ho; simp only [VR, Act.eval]
  | func f => simp only [opD, opR, Option.some.injEq] at ho; subst ho; simp only [VR, Act.eval]

theorem gAt_sound {cs : Conds} {ops : Array Oper} {Bs : List (List Nat)} {R : List AVal} {ev : List (Option AVal)} {listed : Array Bool} {XR XE : List Value} {ac : Act} {o : Oper} {bb : Bool} (rR : VRs E R XR) (rE : VRs E (evList ev) XE)
    (hcur : ∀ t : Nat, ac.tmps[t]? = (XR[t]?).map (curX ops.toList listed XE t)) (hB : ∀ j ∈ Bs.getD i [], listed.getD j false = true)
    (hdst : ∀ g o t, ops.toList[g]? = some o → o.dst = some t → findDst ops.toList t = some g) (hc : CondsOk E cs) (hg : gAt cs ops.toList Bs R ev i o = some bb) : Region.wanted o (yielded ops ac.tmps) = bb := by
  unfold gAt at hg
  unfold Region.wanted
  split at hg
  · rename_i h; simp only [Option.some.injEq] at hg; subst hg; rw [h]
  · rename_i g want h
    rw [h]
    split at hg
    · rename_i d hd
      split at hg
      · rename_i hcon
        simp only [Bool.and_eq_true, Option.isSome_iff_exists] at hcon
        obtain ⟨hc1, r, hr⟩ := hcon
        simp only [Option.bind_eq_some_iff] at hg
        obtain ⟨v, hv, hbb⟩ := hg
        obtain ⟨z, g1, g2⟩ := rE.get (evList_get hv)
        obtain ⟨x, h1, _⟩ := rR.get hr
        simp only [Option.bind_eq_some_iff] at hd
        obtain ⟨og, ho1, ho2⟩ := hd
        have hf := hdst g og d ho1 ho2
        have hcd := hcur d
        rw [h1] at hcd
        have hl := hB g (by simpa using hc1)
        simp only [Option.map_some, curX, hf, hl, if_true, getD_of g1] at hcd
        have ho1' : ops[g]? = some og := by rw [← Array.getElem?_toList]; exact ho1
        simp only [yielded, ho1', Option.bind_some, ho2, hcd]
        exact isB_sound hc g2 hbb
      · simp at hg
    · simp at hg

/-- A step of those that are known ahead. -/
theorem satStep_sound {ops : List Oper} {Bs : List (List Nat)} {R : List AVal} {ev : List (Option AVal)} {XR XE : List Value} (h : Ok K E S X w) (rR : VRs E R XR) (rE : VRs E (evList ev) XE) :
    ∃ XE', VRs E (evList (satStep P K ops Bs R S ev i)) XE' ∧ (satStep P K ops Bs R S ev i).length = ev.length ∧
      ∀ j, (evAt ev j).isSome → XE'.getD j undef = XE.getD j undef ∧ evAt (satStep P K ops Bs R S ev i) j = evAt ev j := by
  unfold satStep
  split
  · rename_i o hev ho
    split
    · split
      · rename_i v hq
        -- a value that it stands for
        have hx : ∃ x, VR E v x := by
          unfold quietVal at hq
          split at hq
          · simp only [Option.some.injEq] at hq; subst hq; exact ⟨undef, by simp only [uv, VR]⟩
          · split at hq
            · simp at hq
            · have hA : EvR E (opD ops Bs R ev i) (fun u => match u with
                  | .tmp t => (match findDst ops t with
                    | none => XR.getD t undef
                    | some j => if (Bs.getD i []).contains j then XE.getD j undef else XR.getD t undef)
                  | .const v => v
                  | .global g => .pointer (some ⟨g, 0, none⟩)
                  | .func f => .func (.func f) #[] #[]) := by
                intro u z hu
                cases u with
                | tmp t =>
                  simp only [opD] at hu
                  split at hu
                  · rename_i r hr hf
                    obtain ⟨rfl, _⟩ := noTop_some hu
                    obtain ⟨x, h1, h2⟩ := rR.get hr
                    simp only [hf, getD_of h1]; exact h2
                  · rename_i r jj hr hf
                    split at hu
                    · rename_i hcon
                      simp only [Option.bind_eq_some_iff] at hu
                      obtain ⟨v', hu, hnt⟩ := hu
                      obtain ⟨rfl, _⟩ := noTop_some hnt
                      obtain ⟨x, h1, h2⟩ := rE.get (evList_get hu)
                      simp only [hf, hcon, if_true, getD_of h1]; exact h2
                    · rename_i hcon
                      split at hu
                      · obtain ⟨rfl, _⟩ := noTop_some hu
                        obtain ⟨x, h1, h2⟩ := rR.get hr
                        simp only [hf, hcon, getD_of h1]; exact h2
                      · simp at hu
                  · simp at hu
                | const c => simp only [opD, opR, Option.some.injEq] at hu; subst hu; simp only [VR]
                | global g => simp only [opD, opR, Option.some.injEq] at hu; subst hu; simp only [VR]
                | func f => simp only [opD, opR, Option.some.injEq] at hu; subst hu; simp only [VR]
              obtain ⟨y, _, hy⟩ := aread_sound h hA hq
              exact ⟨y, hy⟩
          · simp at hq
        obtain ⟨x, hx⟩ := hx
        refine ⟨XE.set i x, ?_, by simp, fun j hj => ?_⟩
        · have : evList (ev.set i (some v)) = (evList ev).set i v := by simp [evList, List.map_set]
          rw [this]; exact rE.set hx
        · have hne : i ≠ j := by rintro rfl; rw [hev] at hj; cases hj
          refine ⟨by simp [List.getD, List.getElem?_set_ne hne], ?_⟩
          unfold evAt; rw [List.getElem?_set_ne hne]
      · exact ⟨XE, rE, rfl, fun j _ => ⟨rfl, rfl⟩⟩
    · exact ⟨XE, rE, rfl, fun j _ => ⟨rfl, rfl⟩⟩
  · exact ⟨XE, rE, rfl, fun j _ => ⟨rfl, rfl⟩⟩

theorem saturate_sound {ops : List Oper} {Bs : List (List Nat)} {R : List AVal} {XR : List Value} (h : Ok K E S X w) (rR : VRs E R XR) : ∀ (is : List Nat) {ev : List (Option AVal)} {XE : List Value}, VRs E (evList ev) XE →
    ∃ XE', VRs E (evList (is.foldl (satStep P K ops Bs R S) ev)) XE' ∧ (is.foldl (satStep P K ops Bs R S) ev).length = ev.length ∧
      ∀ j, (evAt ev j).isSome → XE'.getD j undef = XE.getD j undef ∧ evAt (is.foldl (satStep P K ops Bs R S) ev) j = evAt ev j
  | [], ev, XE, rE => ⟨XE, rE, rfl, fun j _ => ⟨rfl, rfl⟩⟩
  | i :: is, ev, XE, rE => by
    obtain ⟨XE1, h1, h2, h3⟩ := satStep_sound (P := P) (ops := ops) (Bs := Bs) (i := i) h rR rE
    obtain ⟨XE2, g1, g2, g3⟩ := saturate_sound (ops := ops) (Bs := Bs) h rR is h1
    refine ⟨XE2, g1, g2.trans h2, fun j hj => ?_⟩
    obtain ⟨e1, e2⟩ := h3 j hj
    obtain ⟨f1, f2⟩ := g3 j (by rw [e2]; exact hj)
    exact ⟨f1.trans e1, f2.trans e2⟩

theorem opD_any {ops : List Oper} {Bs : List (List Nat)} {R : List AVal} {ev : List (Option AVal)} {XR XE : List Value} (rR : VRs E R XR) (rE : VRs E (evList ev) XE) : ∃ ρ : Operand → Value, EvR E (opD ops Bs R ev i) ρ := by
  refine ⟨fun u => match u with
    | .tmp t => (match findDst ops t with
      | none => XR.getD t undef
      | some j => if (Bs.getD i []).contains j then XE.getD j undef else XR.getD t undef)
    | .const v => v
    | .global g => .pointer (some ⟨g, 0, none⟩)
    | .func f => .func (.func f) #[] #[], ?_⟩
  intro u z hu
  cases u with
  | tmp t =>
    simp only [opD] at hu
    split at hu
    · rename_i r hr hf
      obtain ⟨rfl, _⟩ := noTop_some hu
      obtain ⟨x, h1, h2⟩ := rR.get hr
      simp only [hf, getD_of h1]; exact h2
    · rename_i r jj hr hf
      split at hu
      · rename_i hcon
        simp only [Option.bind_eq_some_iff] at hu
        obtain ⟨v', hu, hnt⟩ := hu
        obtain ⟨rfl, _⟩ := noTop_some hnt
        obtain ⟨x, h1, h2⟩ := rE.get (evList_get hu)
        simp only [hf, hcon, if_true, getD_of h1]; exact h2
      · rename_i hcon
        split at hu
        · obtain ⟨rfl, _⟩ := noTop_some hu
          obtain ⟨x, h1, h2⟩ := rR.get hr
          simp only [hf, hcon, getD_of h1]; exact h2
        · simp at hu
    · simp at hu
  | const c => simp only [opD, opR, Option.some.injEq] at hu; subst hu; simp only [VR]
  | global g => simp only [opD, opR, Option.some.injEq] at hu; subst hu; simp only [VR]
  | func f => simp only [opD, opR, Option.some.injEq] at hu; subst hu; simp only [VR]

theorem gTmAt_sound {cs : Conds} {ops : List Oper} {Bs : List (List Nat)} {R : List AVal} {ev : List (Option AVal)} {XR XE : List Value} {o : Oper} {t : Tm} (rR : VRs E R XR) (rE : VRs E (evList ev) XE) (h : gTmAt cs ops Bs R ev i o = some t) : ∃ r, t.den E = some (.bool r) := by
  unfold gTmAt at h
  obtain ⟨ρ, hρ⟩ := opD_any (ops := ops) (Bs := Bs) (i := i) rR rE
  split at h
  · exact pickTm_sound hρ h
  · split at h
    · rename_i u hu
      obtain rfl := Option.some.inj h
      obtain ⟨x, _, h2⟩ := rE.get (evList_get hu)
      simp only [VR] at h2
      obtain ⟨r, h3, _⟩ := h2
      exact ⟨r, h3⟩
    · split at h
      · exact pickTm_sound hρ h
      · cases h

theorem undec_sound {cs : Conds} {ops : List Oper} {Bs : List (List Nat)} {R : List AVal} {ev : List (Option AVal)} {XR XE : List Value} {t : Tm} (rR : VRs E R XR) (rE : VRs E (evList ev) XE) (h : undec cs ops Bs R ev = some t) :
    (∃ r, t.den E = some (.bool r)) ∧ ∃ i, i < ops.length ∧ evAt ev i = none := by
  unfold undec at h
  obtain ⟨i, hi, h⟩ := List.exists_of_findSome?_eq_some h
  split at h
  · rename_i hc
    simp only [Bool.and_eq_true, Option.isNone_iff_eq_none] at hc
    simp only [Option.bind_eq_some_iff] at h
    obtain ⟨o, _, h⟩ := h
    exact ⟨gTmAt_sound rR rE h, i, List.mem_range.1 hi, hc.1⟩
  · cases h

theorem normE_sound {cs : Conds} (hc : CondsOk E cs) {ev : List (Option AVal)} : ∀ {XE : List Value}, VRs E (evList ev) XE → VRs E (evList (normE cs ev)) XE := by
  induction ev with
  | nil => intro XE h; exact h
  | cons o ev ih =>
    intro XE h
    simp only [evList, List.map_cons, VRs] at h
    obtain ⟨x, r, h1, h2, rfl⟩ := h
    simp only [normE, evList, List.map_cons]
    refine VRs.cons ?_ (ih h2)
    cases o with
    | none => exact h1
    | some v => exact norm_sound hc h1

theorem normE_at {cs : Conds} {ev : List (Option AVal)} {j : Nat} : (evAt (normE cs ev) j).isSome = (evAt ev j).isSome := by
  unfold evAt normE
  rw [List.getElem?_map]
  cases ev[j]? with
  | none => rfl
  | some o => cases o <;> rfl

end Go.Eng

namespace Go.Eng
open Go.RowKit

variable {P : Program} {K : Fix} {E F : Env} {S S' : St} {X : List (List Value)} {w w' : World} {a b v : AVal} {x y : Value} {t s : TypeId} {l r : List AVal} {xs : List Value} {i j n off f : Nat}

theorem mem_ready {ops : Array Oper} {listed : Array Bool} (h : i ∈ Region.ready .any ops listed) :
    ∃ o, ops.toList[i]? = some o ∧ i < ops.size ∧ listed.getD i true = false ∧ ∀ e ∈ o.after.toList, Region.binds .any e = true → listed.getD e.on false = true := by
  unfold Region.ready at h
  simp only [List.mem_filter, List.mem_range, Bool.and_eq_true, Bool.not_eq_true'] at h
  obtain ⟨h1, h2, h3⟩ := h
  refine ⟨ops[i], by simp [h1], h1, h2, fun e he hb => ?_⟩
  simp only [Array.getElem?_eq_getElem h1, Option.map_some, Option.getD_some, Array.all_eq_true'] at h3
  have := h3 e (by simpa using he)
  simpa [hb] using this

structure DrawOk (ops : List Oper) (Bs : List (List Nat)) : Prop where
  edge : ∀ (i : Nat) o, ops[i]? = some o → ∀ e ∈ o.after.toList, Region.binds .any e = true → e.on < i
  pred : ∀ (i : Nat) o, ops[i]? = some o → ∀ j ∈ Bs.getD i [], ∃ e ∈ o.after.toList, Region.binds .any e = true ∧ (e.on = j ∨ j ∈ Bs.getD e.on [])
  dst : ∀ (i : Nat) o t, ops[i]? = some o → o.dst = some t → findDst ops t = some i

theorem drawChk_sound {ops : List Oper} {Bs : List (List Nat)} (h : drawChk ops Bs = true) : DrawOk ops Bs := by
  unfold drawChk at h
  rw [List.all_eq_true] at h
  have key : ∀ (i : Nat) o, ops[i]? = some o → _ := fun i o ho => h i (List.mem_range.2 (List.getElem?_eq_some_iff.1 ho).1)
  refine ⟨fun i o ho e he => ?_, fun i o ho j hj => ?_, fun i o t ho ht => ?_⟩
  · have := key i o ho
    simp only [ho, Bool.and_eq_true, List.all_eq_true, Bool.or_eq_true, Bool.not_eq_true', decide_eq_true_eq] at this
    intro hb
    rcases this.1.1 e he with g | g
    · rw [hb] at g; cases g
    · exact g
  · have := key i o ho
    simp only [ho, Bool.and_eq_true, List.all_eq_true, List.any_eq_true, Bool.or_eq_true, beq_iff_eq, List.contains_iff_mem] at this
    exact this.1.2 j hj
  · have := key i o ho
    simp only [ho, ht, Bool.and_eq_true, beq_iff_eq] at this
    exact this.2

/-- The midst of a region. -/
structure Inv (ops : List Oper) (Bs : List (List Nat)) (ex : List Nat) (ev : List (Option AVal)) (R : List AVal) (XR XE : List Value) (listed : Array Bool) (ac : Act) (E : Env) : Prop where
  size : listed.size = ops.length
  evl : ev.length = ops.length
  dom : ∀ i, listed.getD i false = true → (evAt ev i).isSome
  exd : ∀ i ∈ ex, listed.getD i false = true
  closed : ∀ j, listed.getD j false = true → ∀ k ∈ Bs.getD j [], listed.getD k false = true
  rR : VRs E R XR
  rE : VRs E (evList ev) XE
  cur : ∀ t : Nat, ac.tmps[t]? = (XR[t]?).map (curX ops listed XE t)

theorem Inv.listed_lt {ops Bs ex ev R XR XE listed ac} (h : Inv ops Bs ex ev R XR XE listed ac E) (hl : listed.getD i false = true) : i < ops.length := by
  rw [← h.size]
  rcases Nat.lt_or_ge i listed.size with g | g
  · exact g
  · simp [Array.getD_eq_getD_getElem?, Array.getElem?_eq_none g] at hl

/-- One more operation is behind: what it gave stands in the place. -/
theorem Inv.next {ops : List Oper} {Bs : List (List Nat)} {ex ex' : List Nat} {ev ev' : List (Option AVal)} {R R' : List AVal} {XR XE XE' : List Value} {listed : Array Bool} {ac : Act} {o : Oper} (h : Inv ops Bs ex ev R XR XE listed ac E) (hD : DrawOk ops Bs)
    (ho : ops[i]? = some o) (hB : ∀ j ∈ Bs.getD i [], listed.getD j false = true) (hl : ev'.length = ev.length) (hex : ∀ k ∈ ex', k = i ∨ listed.getD k false = true) (hv : (evAt ev' i).isSome) (hmono : ∀ j, (evAt ev j).isSome → (evAt ev' j).isSome)
    (rR : VRs F R' XR) (rE : VRs F (evList ev') XE') (hy : XE'.getD i undef = y) (hag : ∀ j, listed.getD j false = true → XE'.getD j undef = XE.getD j undef) :
    Inv ops Bs ex' ev' R' XR XE' (listed.setIfInBounds i true) (ac.put o.dst y) F := by
  have hlt : i < listed.size := by rw [h.size]; exact (List.getElem?_eq_some_iff.1 ho).1
  have hset : ∀ j, (listed.setIfInBounds i true).getD j false = true → j = i ∨ listed.getD j false = true := by
    intro j hj
    by_cases e : i = j
    · exact .inl e.symm
    · rw [getD_set_ne e] at hj; exact .inr hj
  have hset' : ∀ j, listed.getD j false = true → (listed.setIfInBounds i true).getD j false = true := by
    intro j hj
    by_cases e : i = j
    · subst e; exact getD_set_self hlt
    · rw [getD_set_ne e]; exact hj
  refine ⟨by simpa using h.size, hl.trans h.evl, fun j hj => ?_, fun k hk => ?_, fun j hj k hk => ?_, rR, rE, ?_⟩
  · rcases hset j hj with rfl | hj
    · exact hv
    · exact hmono j (h.dom j hj)
  · rcases hex k hk with rfl | hk
    · exact getD_set_self hlt
    · exact hset' k hk
  · rcases hset j hj with rfl | hj
    · exact hset' k (hB k hk)
    · exact hset' k (h.closed j hj k hk)
  · exact cur_put h.cur ho hlt (fun t ht => hD.dst i o t ho ht) hy hag

theorem finR_sound {ops : List Oper} {R : List AVal} {ev : List (Option AVal)} {XR XE : List Value} {listed : Array Bool} {ac : Act} (rR : VRs E R XR) (rE : VRs E (evList ev) XE) (hcur : ∀ t : Nat, ac.tmps[t]? = (XR[t]?).map (curX ops listed XE t))
    (hall : ∀ i, i < ops.length → listed.getD i false = true) (hev : ∀ i, i < ops.length → (evAt ev i).isSome) : VRs E (finR ops R ev) ac.tmps.toList := by
  have hlen : R.length = ac.tmps.toList.length := by
    rw [rR.length]
    rcases Nat.lt_trichotomy XR.length ac.tmps.toList.length with g | g | g
    · have := hcur XR.length
      rw [List.getElem?_eq_none (Nat.le_refl _)] at this
      simp at this; simp at g; omega
    · exact g
    · have := hcur ac.tmps.toList.length
      have h2 : XR[ac.tmps.toList.length]? = some XR[ac.tmps.toList.length] := by simp
      rw [h2] at this
      simp at this
  refine VRs.mk (by simp [finR, hlen]) fun t q x hq hx => ?_
  simp only [finR, List.getElem?_mapIdx, Option.map_eq_some_iff] at hq
  obtain ⟨r, hr, rfl⟩ := hq
  rw [Array.getElem?_toList, hcur t] at hx
  obtain ⟨z, h1, h2⟩ := rR.get hr
  rw [h1] at hx
  simp only [Option.map_some, Option.some.injEq, curX] at hx
  cases hf : findDst ops t with
  | none => simp only [hf] at hx ⊢; subst hx; exact h2
  | some j =>
    obtain ⟨o, ho, _⟩ := findDst_some hf
    have hj := (List.getElem?_eq_some_iff.1 ho).1
    simp only [hf, hall j hj, if_true] at hx
    obtain ⟨u, hu⟩ := Option.isSome_iff_exists.1 (hev j hj)
    obtain ⟨z2, g1, g2⟩ := rE.get (evList_get hu)
    rw [getD_of g1] at hx; subst hx
    simp only [hu, Option.getD_some]; exact g2

theorem all_listed {ops : Array Oper} {Bs : List (List Nat)} {listed : Array Bool} (hD : DrawOk ops.toList Bs) (hs : listed.size = ops.size) (hr : Region.ready .any ops listed = []) : ∀ i, i < ops.size → listed.getD i false = true := by
  intro i
  induction i using Nat.strongRecOn with
  | _ i ih =>
    intro hi
    cases hl : listed.getD i false with
    | true => rfl
    | false =>
      exfalso
      have : i ∈ Region.ready .any ops listed := by
        unfold Region.ready
        simp only [List.mem_filter, List.mem_range, Bool.and_eq_true, Bool.not_eq_true']
        refine ⟨hi, ?_, ?_⟩
        · have : i < listed.size := by omega
          simpa [Array.getD_eq_getD_getElem?, this] using hl
        · have ho : ops.toList[i]? = some ops[i] := by simp [hi]
          simp only [Array.getElem?_eq_getElem hi, Option.map_some, Option.getD_some, Array.all_eq_true']
          intro e he
          cases hb : Region.binds .any e with
          | false => simp
          | true =>
            have e1 := hD.edge i ops[i] ho e (by simpa using he) hb
            rw [ih e.on e1 (by omega)]; simp
      rw [hr] at this; cases this

theorem count_set {listed : Array Bool} (hlt : i < listed.size) (hl : listed.getD i false = false) : (listed.setIfInBounds i true).toList.count false + 1 = listed.toList.count false := by
  have hi : i < listed.toList.length := by simpa using hlt
  have hg : listed.toList[i] = false := by simpa [Array.getD_eq_getD_getElem?, hlt] using hl
  simp only [Array.toList_setIfInBounds]
  rw [List.count_set hi, hg]
  have : 0 < listed.toList.count false := List.count_pos_iff.2 (by rw [← hg]; exact List.getElem_mem hi)
  simp only [beq_self_eq_true, if_true, Bool.true_beq, Bool.false_eq_true, if_false]
  omega

end Go.Eng

namespace Go.Eng
open Go.RowKit

variable {P : Program} {K : Fix} {E F : Env} {S S' : St} {X : List (List Value)} {w w' : World} {a b v : AVal} {x y : Value} {t s : TypeId} {l r : List AVal} {xs : List Value} {i j n off f : Nat}

theorem SR.two {p q : List AVal} {A B : List Value} (h : SR E [p, q] [A, B]) : VRs E p A ∧ VRs E q B := by
  simp only [SR] at h
  obtain ⟨x, r, h1, ⟨x2, r2, h2, h3, h4⟩, h5⟩ := h
  simp only [List.cons.injEq] at h5
  obtain ⟨rfl, rfl⟩ := h5
  simp only [List.cons.injEq] at h4
  obtain ⟨rfl, _⟩ := h4
  exact ⟨h1, h2⟩

theorem evBack_sound {ev : List (Option AVal)} {XE : List Value} (rE : VRs E (evList ev) XE) (hl : VRs F l XE) : VRs F (evList (evBack ev l)) XE ∧ (evBack ev l).length = ev.length ∧ (∀ j, (evAt ev j).isSome → (evAt (evBack ev l) j).isSome) := by
  induction ev generalizing l XE with
  | nil => 
    simp only [evList, List.map_nil, VRs] at rE; subst rE
    simp only [evBack, List.zipWith_nil_left, evList, List.map_nil, VRs, List.length_nil, evAt]
    simp
  | cons o ev ih =>
    simp only [evList, List.map_cons, VRs] at rE
    obtain ⟨x, r, h1, h2, rfl⟩ := rE
    cases l with
    | nil => simp only [VRs] at hl; cases hl
    | cons q l =>
      simp only [VRs, List.cons.injEq] at hl
      obtain ⟨x', r', g1, g2, rfl, rfl⟩ := hl
      obtain ⟨i1, i2, i3⟩ := ih (l := l) (XE := r) h2 g2
      refine ⟨?_, by simp [evBack] at i2 ⊢; omega, fun j hj => ?_⟩
      · simp only [evBack, List.zipWith_cons_cons, evList, List.map_cons]
        refine VRs.cons ?_ i1
        cases o with
        | none => simp only [Option.map_none, Option.getD_none] at h1 ⊢; simp only [uv, VR] at h1 ⊢; exact h1
        | some u => simpa using g1
      · cases j with
        | zero =>
          simp only [evAt, evBack, List.zipWith_cons_cons, List.getElem?_cons_zero, Option.join_some] at hj ⊢
          cases o <;> simp_all
        | succ j =>
          simp only [evAt, evBack, List.zipWith_cons_cons, List.getElem?_cons_succ] at hj ⊢
          exact i3 j hj

theorem evAt_set {ev : List (Option AVal)} (h : i < ev.length) : evAt (ev.set i (some v)) i = some v := by
  simp [evAt, h]
theorem evAt_set_ne {ev : List (Option AVal)} {u : Option AVal} (h : i ≠ j) : evAt (ev.set i u) j = evAt ev j := by
  simp [evAt, List.getElem?_set_ne h]

/-- A way in the midst of a region. -/
structure DS where
  ex : List Nat
  ev : List (Option AVal)
  R : List AVal
  S : St

inductive DN where
  | more (d : DS)
  | done (p : List AVal × St)

def DN.mores : List DN → List DS
  | [] => []
  | .more d :: l => d :: DN.mores l
  | .done _ :: l => DN.mores l
def DN.dones : List DN → List (List AVal × St)
  | [] => []
  | .more _ :: l => DN.dones l
  | .done p :: l => p :: DN.dones l
theorem DN.mem_mores {d : DS} : ∀ {l : List DN}, DN.more d ∈ l → d ∈ DN.mores l
  | .more _ :: l, h => by
    simp only [DN.mores]
    rcases List.mem_cons.1 h with h | h
    · cases h; simp
    · exact List.mem_cons_of_mem _ (DN.mem_mores h)
  | .done _ :: l, h => by
    simp only [DN.mores]
    rcases List.mem_cons.1 h with h | h
    · cases h
    · exact DN.mem_mores h
theorem DN.mem_dones {p : List AVal × St} : ∀ {l : List DN}, DN.done p ∈ l → p ∈ DN.dones l
  | .done _ :: l, h => by
    simp only [DN.dones]
    rcases List.mem_cons.1 h with h | h
    · cases h; simp
    · exact List.mem_cons_of_mem _ (DN.mem_dones h)
  | .more _ :: l, h => by
    simp only [DN.dones]
    rcases List.mem_cons.1 h with h | h
    · cases h
    · exact DN.mem_dones h

/-- One effect more, whichever it is. -/
def dNext (P : Program) (K : Glb) (ext call : CallF) (ops : List Oper) (Bs : List (List Nat)) (d : DS) : Option (List DN) :=
  match undec d.S.x.conds ops Bs d.R d.ev with
  | some t => some [.more ⟨d.ex, saturate P K ops Bs d.R (d.S.withC t true) (normE (d.S.withC t true).x.conds d.ev), d.R, d.S.withC t true⟩,
      .more ⟨d.ex, saturate P K ops Bs d.R (d.S.withC t false) (normE (d.S.withC t false).x.conds d.ev), d.R, d.S.withC t false⟩]
  | none =>
    if goChk P K ops Bs d.R d.S d.ex d.ev = true then
      match (List.range ops.length).filter fun i => (evAt d.ev i).isNone && ready Bs d.ev i with
      | [] => if (List.range ops.length).all (fun i => (evAt d.ev i).isSome) = true then some [.done (finR ops d.R d.ev, d.S)] else none
      | i0 :: is0 => bindAll (fun i =>
        match ops[i]? with
        | none => none
        | some o =>
          (aeff P K ext call d.S [d.R, evList d.ev] (opD ops Bs d.R d.ev i) o).bind (bindAll fun p =>
            match p.2.1 with
            | [R', l] => if l.length = d.ev.length then some [.more ⟨i :: (Bs.getD i [] ++ d.ex), saturate P K ops Bs R' p.2.2 ((evBack d.ev l).set i (some p.1)), R', p.2.2⟩] else none
            | _ => none)) (i0 :: is0)
    else none

/-- What isn't reached is gone; names in the order in which they are reached. -/
def gcD (n : Nat) (d : DS) : DS :=
  match gc (.lit (.tuple #[]), { d.S with stk := [d.R, evList d.ev] ++ d.S.stk }) with
  | (_, S') => match S'.stk.take 2 with
    | [R', l] => if l.length = d.ev.length then ⟨(List.range n).filter fun i => d.ex.contains i, evBack d.ev l, R', { S' with stk := S'.stk.drop 2 }⟩ else d
    | _ => d

def beqEv : Option AVal → Option AVal → Bool
  | none, none => true
  | some a, some b => beqA a b
  | _, _ => false
theorem beqEv_eq (a b : Option AVal) (h : beqEv a b = true) : a = b := by
  cases a <;> cases b <;> simp only [beqEv] at h
  · rfl
  · cases h
  · cases h
  · rw [beqA_eq _ _ h]
def beqD (a b : DS) : Bool := decide (a.ex = b.ex) && allSame beqEv a.ev b.ev && beqP (.tuple a.R, a.S) (.tuple b.R, b.S)
theorem beqD_eq (a b : DS) (h : beqD a b = true) : a = b := by
  obtain ⟨x, e, r, s⟩ := a
  obtain ⟨x', e', r', s'⟩ := b
  simp only [beqD, Bool.and_eq_true, decide_eq_true_eq] at h
  obtain ⟨⟨h1, h2⟩, h3⟩ := h
  have h4 := beqP_eq _ _ h3
  simp only [Prod.mk.injEq, AVal.tuple.injEq] at h4
  rw [h1, allSame_eq beqEv_eq h2, h4.1, h4.2]

def dedupD : List DS → List DS
  | [] => []
  | p :: l => let r := dedupD l; if r.any (beqD p) then r else p :: r
theorem dedupD_mem {p : DS} : ∀ {l : List DS}, p ∈ l → p ∈ dedupD l
  | q :: l, h => by
    simp only [dedupD]
    rcases List.mem_cons.1 h with rfl | h
    · split
      · rename_i ha
        obtain ⟨q, h1, h2⟩ := List.any_eq_true.1 ha
        rw [beqD_eq _ _ h2]; exact h1
      · simp
    · have := dedupD_mem h
      split
      · exact this
      · exact List.mem_cons_of_mem _ this

def mergeD (n : Nat) : List DS → List DS
  | [] => []
  | [d] => [d]
  | l => dedupD (l.map (gcD n))

def drawAll (P : Program) (K : Glb) (ext call : CallF) (ops : List Oper) (Bs : List (List Nat)) : Nat → List DS → Option (List (List AVal × St))
  | _, [] => some []
  | 0, _ :: _ => none
  | m + 1, d :: l =>
    match bindAll (dNext P K ext call ops Bs) (d :: l) with
    | some nx => (drawAll P K ext call ops Bs m (mergeD ops.length (DN.mores nx))).map (DN.dones nx ++ ·)
    | none => none

def adraw (P : Program) (K : Glb) (ext call : CallF) (ops : List Oper) (R : List AVal) (S : St) : Option (List (List AVal × St)) :=
  let Bs := predsOf ops
  if drawChk ops Bs = true then
    drawAll P K ext call ops Bs (2 * ops.length + 2) [⟨[], saturate P K ops Bs R S (List.replicate ops.length none), R, S⟩]
  else none

theorem mergeD_sound {l : List DS} {d : DS} {ops : List Oper} {Bs : List (List Nat)} {XR XE : List Value} {listed : Array Bool} {ac : Act} (hm : d ∈ l)
    (hI : Inv ops Bs d.ex d.ev d.R XR XE listed ac E) (h : Ok K E d.S X w) :
    ∃ d' E', d' ∈ mergeD ops.length l ∧ Inv ops Bs d'.ex d'.ev d'.R XR XE listed ac E' ∧ Ok K E' d'.S X w := by
  have key : ∃ E', Inv ops Bs (gcD ops.length d).ex (gcD ops.length d).ev (gcD ops.length d).R XR XE listed ac E' ∧ Ok K E' (gcD ops.length d).S X w := by
    have hc : SR E [d.R, evList d.ev] [XR, XE] := by
      simp only [SR]; exact ⟨XR, [XE], hI.rR, ⟨XE, [], hI.rE, rfl, rfl⟩, rfl⟩
    obtain ⟨E', _, g2⟩ := gc_sound (h.push hc) (v := .lit (.tuple #[])) (x := .tuple #[]) (by simp only [VR])
    unfold gcD
    generalize gc (.lit (.tuple #[]), { d.S with stk := [d.R, evList d.ev] ++ d.S.stk }) = q at g2 ⊢
    obtain ⟨v', S'⟩ := q
    simp only
    obtain ⟨p1, p2⟩ := g2.pop (CX := [XR, XE])
    simp only [List.length_cons, List.length_nil] at p1 p2
    split
    · rename_i R' l' hRl
      split
      · rename_i hll
        rw [hRl] at p2
        obtain ⟨c1, c2⟩ := p2.two
        obtain ⟨b1, b2, b3⟩ := evBack_sound hI.rE c2
        refine ⟨E', ⟨hI.size, b2.trans hI.evl, fun i hi => b3 i (hI.dom i hi), fun i hi => ?_, hI.closed, c1, b1, hI.cur⟩, p1⟩
        simp only [List.mem_filter] at hi
        exact hI.exd i (by simpa using hi.2)
      · exact ⟨E, hI, h⟩
    · exact ⟨E, hI, h⟩
  match l, hm with
  | [e], hm =>
    rw [List.mem_singleton] at hm
    subst hm
    exact ⟨d, E, List.mem_singleton.2 rfl, hI, h⟩
  | e :: f :: l, hm =>
    obtain ⟨E', h1, h2⟩ := key
    exact ⟨gcD ops.length d, E', dedupD_mem (List.mem_map.2 ⟨d, hm, rfl⟩), h1, h2⟩

theorem drawAll_sound {ext call : CallF} (he : ExtOk P K ext) (hcl : CallOk P K call) {ops : Array Oper} {Bs : List (List Nat)} {Q : Exit → Act → World → Prop} (hD : DrawOk ops.toList Bs) :
    ∀ (N k m : Nat) {L : List DS} {ex : List Nat} {ev : List (Option AVal)} {R : List AVal} {S : St} {listed : Array Bool} {XR XE : List Value} {ac : Act} {w : World} {E : Env} {outs : List (List AVal × St)},
    k + m ≤ N → listed.toList.count false ≤ k → Inv ops.toList Bs ex ev R XR XE listed ac E → Ok K E S X w → drawAll P K ext call ops.toList Bs m L = some outs → (⟨ex, ev, R, S⟩ : DS) ∈ L →
    (∀ R' S' E' w' ac', (R', S') ∈ outs → VRs E' R' ac'.tmps.toList → Ok K E' S' X w' → ac'.defers = ac.defers → Q .normal ac' w') → wpAny P .any ops Q k listed ac w := by
  intro N
  induction N with
  | zero =>
    intro k m L ex ev R S listed XR XE ac w E outs hN hk hI h hv hmL hq
    have : m = 0 := by omega
    subst this
    cases L with
    | nil => cases hmL
    | cons d l => simp [drawAll] at hv
  | succ N ih =>
  intro k m L ex ev R S listed XR XE ac w E outs hN hk hI h hv hmL hq
  have hsz : listed.size = ops.size := by simpa using hI.size
  cases m with
  | zero => 
    cases L with
    | nil => cases hmL
    | cons d l => simp [drawAll] at hv
  | succ m =>
  have hvL := hv
  obtain ⟨nx, outs2, hnx, hrec, rfl⟩ : ∃ nx outs2, bindAll (dNext P K ext call ops.toList Bs) L = some nx ∧ drawAll P K ext call ops.toList Bs m (mergeD ops.toList.length (DN.mores nx)) = some outs2 ∧ outs = DN.dones nx ++ outs2 := by
    cases L with
    | nil => cases hmL
    | cons d l =>
      simp only [drawAll] at hv
      split at hv
      · rename_i nx hnx
        simp only [Option.map_eq_some_iff] at hv
        obtain ⟨o2, h1, h2⟩ := hv
        exact ⟨nx, o2, hnx, h1, h2.symm⟩
      · cases hv
  obtain ⟨ys, hv, hys0⟩ := bindAll_mem hnx hmL
  clear hnx
  have step : ∀ {d' : DS} {k' : Nat} {listed' : Array Bool} {XR' XE' : List Value} {ac' : Act} {w' : World} {E' : Env}, DN.more d' ∈ ys → k' + m ≤ N → listed'.toList.count false ≤ k' → Inv ops.toList Bs d'.ex d'.ev d'.R XR' XE' listed' ac' E' → Ok K E' d'.S X w' → ac'.defers = ac.defers → wpAny P .any ops Q k' listed' ac' w' := by
    intro d' k' listed' XR' XE' ac' w' E' hmy hkN hk' hI' h' hdef
    obtain ⟨d2, E2, m2, i2, o2⟩ := mergeD_sound (DN.mem_mores (hys0 _ hmy)) hI' h'
    exact ih k' m hkN hk' i2 o2 hrec m2 fun R3 S3 E3 w3 ac3 hm3 r3 h3 d3 => hq R3 S3 E3 w3 ac3 (List.mem_append_right _ hm3) r3 h3 (d3.trans hdef)
  cases hun0 : undec S.x.conds ops.toList Bs R ev with
  | some t =>
    obtain ⟨⟨r, hr⟩, _⟩ := undec_sound hI.rR hI.rE hun0
    simp only [dNext, hun0] at hv
    obtain rfl := Option.some.inj hv
    have main : DN.more ⟨ex, saturate P K ops.toList Bs R (S.withC t r) (normE (S.withC t r).x.conds ev), R, S.withC t r⟩ ∈ [DN.more ⟨ex, saturate P K ops.toList Bs R (S.withC t true) (normE (S.withC t true).x.conds ev), R, S.withC t true⟩, .more ⟨ex, saturate P K ops.toList Bs R (S.withC t false) (normE (S.withC t false).x.conds ev), R, S.withC t false⟩] := by
      cases r <;> simp
    have h' := h.withC hr
    have rE1 := normE_sound h'.x.conds hI.rE
    obtain ⟨XE3, s1, s2, s3⟩ := saturate_sound (P := P) (ops := ops.toList) (Bs := Bs) h' hI.rR (List.range ops.toList.length) rE1
    refine step (XR' := XR) (XE' := XE3) main (by omega) hk ?_ h' rfl
    refine ⟨hI.size, ?_, fun i hi => ?_, hI.exd, hI.closed, hI.rR, s1, fun q => ?_⟩
    · unfold saturate
      simp only
      rw [s2]; simp [normE, hI.evl]
    · have hd := hI.dom i hi
      rw [← normE_at (cs := (S.withC t r).x.conds)] at hd
      have := (s3 i hd).2
      unfold saturate
      simp only
      rw [this]; exact hd
    · rw [hI.cur q]
      congr 1
      funext z
      unfold curX
      split
      · rename_i j hj
        split
        · rename_i hl
          have hd := hI.dom j hl
          rw [← normE_at (cs := (S.withC t r).x.conds)] at hd
          exact (s3 j hd).1.symm
        · rfl
      · rfl
  | none =>
  cases k with
  | zero =>
    have hall : ∀ i, i < ops.size → listed.getD i false = true := by
      intro i hi
      cases hl : listed.getD i false with
      | true => rfl
      | false =>
        have := count_set (i := i) (by omega) hl
        omega
    have hr : Region.ready .any ops listed = [] := by
      cases hh : Region.ready .any ops listed with
      | nil => rfl
      | cons i rest =>
        have hm : i ∈ Region.ready .any ops listed := by rw [hh]; simp
        obtain ⟨o, _, h1, h2, _⟩ := mem_ready hm
        have h3 := hall i h1
        have : i < listed.size := by omega
        simp [Array.getD_eq_getD_getElem?, this] at h2 h3
        rw [h2] at h3; cases h3
    refine ⟨hr, ?_⟩
    have hev : ∀ i, i < ops.toList.length → (evAt ev i).isSome := fun i hi => hI.dom i (hall i (by simpa using hi))
    simp only [dNext, hun0] at hv
    split at hv
    · split at hv
      · split at hv
        · simp only [Option.some.injEq] at hv; subst hv
          exact hq _ S E w ac (List.mem_append_left _ (DN.mem_dones (hys0 _ (List.mem_singleton.2 rfl)))) (finR_sound hI.rR hI.rE hI.cur (fun i hi => hall i (by simpa using hi)) hev) h rfl
        · simp at hv
      · rename_i i is0 hfil
        have : i ∈ (List.range ops.toList.length).filter fun i => (evAt ev i).isNone && ready Bs ev i := by rw [hfil]; simp
        simp only [List.mem_filter, List.mem_range, Bool.and_eq_true] at this
        have h1 := hev i this.1
        have h2 := this.2.1
        cases hx : evAt ev i <;> simp [hx] at h1 h2
    · simp at hv
  | succ k =>
      simp only [dNext, hun0] at hv
      split at hv
      rotate_left
      · simp at hv
      rename_i hgo
      unfold goChk at hgo
      rw [List.all_eq_true] at hgo
      refine ⟨fun hr => ?_, fun i hi => ?_⟩
      · have hall := all_listed hD hsz hr
        have hev : ∀ i, i < ops.toList.length → (evAt ev i).isSome := fun i hi => hI.dom i (hall i (by simpa using hi))
        split at hv
        · split at hv
          · simp only [Option.some.injEq] at hv; subst hv
            exact hq _ S E w ac (List.mem_append_left _ (DN.mem_dones (hys0 _ (List.mem_singleton.2 rfl)))) (finR_sound hI.rR hI.rE hI.cur (fun i hi => hall i (by simpa using hi)) hev) h rfl
          · simp at hv
        · rename_i i is0 hfil
          have : i ∈ (List.range ops.toList.length).filter fun i => (evAt ev i).isNone && ready Bs ev i := by rw [hfil]; simp
          simp only [List.mem_filter, List.mem_range, Bool.and_eq_true] at this
          have h1 := hev i this.1
          have h2 := this.2.1
          cases hx : evAt ev i <;> simp [hx] at h1 h2
      · obtain ⟨o, ho, hilt, hunl, hedge⟩ := mem_ready hi
        have hil : i < listed.size := by omega
        have hun : listed.getD i false = false := by
          simp [Array.getD_eq_getD_getElem?, hil] at hunl ⊢; exact hunl
        have hB : ∀ j ∈ Bs.getD i [], listed.getD j false = true := by
          intro j hj
          obtain ⟨e, he1, hbe, he2⟩ := hD.pred i o ho j hj
          have hle := hedge e he1 hbe
          rcases he2 with rfl | he2
          · exact hle
          · exact hI.closed _ hle j he2
        have hoA : ops[i]? = some o := by rw [← Array.getElem?_toList]; exact ho
        have hcount := count_set hil hun
        have hgi := hgo i (List.mem_range.2 (by simpa using hilt))
        simp only [ho] at hgi
        have hev_len : i < ev.length := by rw [hI.evl]; simpa using hilt
        unfold wpOp
        rw [hoA]
        simp only
        cases hevi : evAt ev i with
        | some v =>
          simp only [hevi, Bool.or_eq_true] at hgi
          rcases hgi with hgi | hgi
          · have := hI.exd i (by simpa using hgi)
            rw [hun] at this; cases this
          · split at hgi
            · rename_i u hu
              have huv := beqA_eq _ _ hgi
              subst huv
              -- behind it: the same abstract state
              have go : ∀ y, VR E v y → wpAny P .any ops Q k (listed.setIfInBounds i true) (ac.put o.dst y) w := by
                intro y hy
                have hset : evList ev = (evList ev).set i v := by
                  have := evList_get hevi
                  apply List.ext_getElem?
                  intro q
                  rw [List.getElem?_set]
                  split
                  · rename_i hq; subst hq
                    rw [this]; simp [evList, hev_len]
                  · rfl
                have rE' : VRs E (evList ev) (XE.set i y) := by rw [hset]; exact hI.rE.set hy
                have hXl : i < XE.length := by rw [← hI.rE.length]; simpa [evList] using hev_len
                refine ih k (m + 1) (ex := ex) (ev := ev) (R := R) (S := S) (XR := XR) (XE := XE.set i y) (by omega) (by omega) ?_ h hvL hmL fun R' S' E' w' ac' hm hR' h' hd => hq R' S' E' w' ac' hm hR' h' (hd.trans put_defers)
                refine hI.next hD ho hB rfl (fun k hk => .inr (hI.exd k hk)) (by rw [hevi]; rfl) (fun j hj => hj) hI.rR rE' (by simp [List.getD, hXl]) fun j hj => ?_
                have hne : i ≠ j := by rintro rfl; rw [hun] at hj; cases hj
                simp [List.getD, List.getElem?_set_ne hne]
              unfold quietVal at hu
              split at hu
              · rename_i hg
                have hw := gAt_sound hI.rR hI.rE hI.cur hB hD.dst h.x.conds hg
                rw [if_neg (by rw [hw]; simp)]
                simp only [Option.some.injEq] at hu; subst hu
                exact go undef (by simp only [uv, VR])
              · rename_i hg
                have hw := gAt_sound hI.rR hI.rE hI.cur hB hD.dst h.x.conds hg
                rw [if_pos hw]
                split at hu
                · simp at hu
                · left
                  obtain ⟨y, g1, g2⟩ := aread_sound h (opD_sound hI.rR hI.rE hI.cur hun hB hI.closed) hu
                  unfold Oper.wp
                  rw [g1, Oper.upon_value]
                  exact go y g2
              · simp at hu
            · cases hgi
        | none =>
          simp only [hevi, Bool.or_eq_true, Bool.not_eq_true', Bool.and_eq_true, beq_iff_eq] at hgi
          have hrdy : ready Bs ev i = true := by
            unfold ready
            rw [List.all_eq_true]
            exact fun j hj => hI.dom j (hB j hj)
          rcases hgi with hgi | ⟨hg, hisW⟩
          · rw [hrdy] at hgi; cases hgi
          · have hw := gAt_sound hI.rR hI.rE hI.cur hB hD.dst h.x.conds hg
            rw [if_pos hw]
            left
            have hmem : i ∈ (List.range ops.toList.length).filter fun i => (evAt ev i).isNone && ready Bs ev i := by
              simp only [List.mem_filter, List.mem_range, Bool.and_eq_true, hevi, Option.isNone_none, true_and]
              exact ⟨by simpa using hilt, hrdy⟩
            split at hv
            · rename_i hfil; rw [hfil] at hmem; cases hmem
            · rename_i i' is0 hfil
              rw [hfil] at hmem
              obtain ⟨zs, hzs, hsub0⟩ := bindAll_mem hv hmem
              clear hv
              simp only [ho, Option.bind_eq_some_iff] at hzs
              obtain ⟨os, hos, hv⟩ := hzs
              refine aeff_sound he hcl (CX := [XR, XE]) h (opD_sound hI.rR hI.rE hI.cur hun hB hI.closed) ?_ hos ?_
              · simp only [SR]; exact ⟨XR, [XE], hI.rR, ⟨XE, [], hI.rE, rfl, rfl⟩, rfl⟩
              · intro v ctx' S' E' w' y hm hy hc' h'
                obtain ⟨zs2, hys, hsub⟩ := bindAll_mem hv hm
                simp only at hys
                split at hys
                · rename_i R' l'
                  obtain ⟨c1, c2⟩ := hc'.two
                  split at hys
                  · rename_i hll
                    obtain ⟨b1, b2, b3⟩ := evBack_sound hI.rE c2
                    have hbl : i < (evBack ev l').length := by rw [b2]; exact hev_len
                    have rE2 : VRs E' (evList ((evBack ev l').set i (some v))) (XE.set i y) := by
                      have : evList ((evBack ev l').set i (some v)) = (evList (evBack ev l')).set i v := by simp [evList, List.map_set]
                      rw [this]; exact b1.set hy
                    obtain ⟨XE3, s1, s2, s3⟩ := saturate_sound (P := P) (ops := ops.toList) (Bs := Bs) h' c1 (List.range ops.toList.length) rE2
                    have hXl : i < XE.length := by rw [← hI.rE.length]; simpa [evList] using hev_len
                    have hi2 : (evAt ((evBack ev l').set i (some v)) i).isSome := by rw [evAt_set hbl]; rfl
                    have hj2 : ∀ j, (evAt ev j).isSome → (evAt ((evBack ev l').set i (some v)) j).isSome := by
                      intro j hj
                      by_cases e : i = j
                      · subst e; exact hi2
                      · rw [evAt_set_ne e]; exact b3 j hj
                    obtain rfl := Option.some.inj hys
                    have hI2 : Inv ops.toList Bs (i :: (Bs.getD i [] ++ ex)) (saturate P K.toG ops.toList Bs R' S' ((evBack ev l').set i (some v))) R' XR XE3 (listed.setIfInBounds i true) (ac.put o.dst y) E' := by
                      refine hI.next (ex' := i :: (Bs.getD i [] ++ ex)) hD ho hB ?_ (fun k hk => (List.mem_cons.1 hk).imp id fun hk => (List.mem_append.1 hk).elim (hB k) (hI.exd k)) ?_ ?_ c1 s1 ?_ ?_
                      · unfold saturate; rw [s2]; simpa using b2
                      · unfold saturate; rw [(s3 i hi2).2]; exact hi2
                      · intro j hj
                        unfold saturate; rw [(s3 j (hj2 j hj)).2]; exact hj2 j hj
                      · rw [(s3 i hi2).1]; simp [List.getD, hXl]
                      · intro j hj
                        have hne : i ≠ j := by rintro rfl; rw [hun] at hj; cases hj
                        rw [(s3 j (hj2 j (hI.dom j hj))).1]
                        simp [List.getD, List.getElem?_set_ne hne]
                    exact step (XR' := XR) (XE' := XE3) (k' := k) (hsub0 _ (hsub _ (List.mem_singleton.2 rfl))) (by omega) (by omega) hI2 h' put_defers
                  · simp at hys
                · simp at hys

end Go.Eng

namespace Go.Eng
open Go.RowKit

variable {P : Program} {K : Fix} {E F : Env} {S S' : St} {X : List (List Value)} {w w' : World} {a b v : AVal} {x y : Value} {t s : TypeId} {l r : List AVal} {xs : List Value} {i j n off f : Nat}

/-! ### what holds at each round of a loop: a frame and a state with unknowns, that every round leaves as such -/

def findOb (κ : Nat) (h : Tm) : List AOb → Nat → Option (Nat × AOb)
  | [], _ => none
  | o :: l, i => if o.kind = κ ∧ beqT o.h h = true then some (i, o) else findOb κ h l (i + 1)

theorem findOb_sound {κ : Nat} {h : Tm} : ∀ {l : List AOb} {i k : Nat} {o : AOb}, findOb κ h l i = some (k, o) → i ≤ k ∧ l[k - i]? = some o ∧ o.kind = κ ∧ o.h = h
  | [], i, k, o, hf => by simp [findOb] at hf
  | p :: l, i, k, o, hf => by
    simp only [findOb] at hf
    split at hf
    · rename_i hc
      simp only [Option.some.injEq, Prod.mk.injEq] at hf; obtain ⟨rfl, rfl⟩ := hf
      exact ⟨Nat.le_refl _, by simp, hc.1, beqT_eq _ _ hc.2⟩
    · obtain ⟨h1, h2, h3⟩ := findOb_sound hf
      refine ⟨by omega, ?_, h3⟩
      have : k - i = (k - (i + 1)) + 1 := by omega
      rw [this]; simpa using h2

structure Tmpl where
  R : List AVal
  S : St
  v0 : Nat

/-- How the names of such a state are to be read in another one. -/
structure Mat where
  mu : List Nat
  nu : List Nat
  om : List (Option Nat)
  si : List Tm

/-- What means nothing. -/
def deadT : Tm := .bin .lt (.bool true) (.bool true)

mutual
def subT (v0 : Nat) (si : List Tm) : Tm → Tm
  | .var n => if n < v0 then .var n else si.getD (n - v0) deadT
  | .int z => .int z
  | .bool b => .bool b
  | .str s => .str s
  | .rows l => .rows l
  | .nil => .nil
  | .elem h i sz o => .elem (subT v0 si h) (subT v0 si i) sz o
  | .bin o a b => .bin o (subT v0 si a) (subT v0 si b)
  | .un o a => .un o (subT v0 si a)
  | .app f l => .app f (subTs v0 si l)
def subTs (v0 : Nat) (si : List Tm) : List Tm → List Tm
  | [] => []
  | a :: l => subT v0 si a :: subTs v0 si l
end

def Env.back (E : Env) (v0 : Nat) (M : Mat) : Env where
  rho := fun b => (M.mu[b]?).bind E.rho
  kap := fun q => (M.nu[q]?).bind E.kap
  var := fun n => if n < v0 then E.var n else (M.si[n - v0]?).bind fun t => t.den E
  fn := E.fn
  fp := fun i => match M.om[i]? with
    | some (some j) => E.fp j
    | _ => fun _ => False
  pp := fun i => match M.om[i]? with
    | some (some j) => E.pp j
    | _ => fun _ => False

mutual
theorem subT_den {v0 : Nat} {M : Mat} : ∀ t : Tm, Tm.den (E.back v0 M) t = Tm.den E (subT v0 M.si t)
  | .var n => by
    simp only [Tm.den, Env.back, subT]
    split
    · simp only [Tm.den]
    · rw [List.getD_eq_getElem?_getD]
      cases M.si[n - v0]? with
      | none => rfl
      | some t => rfl
  | .int z => rfl
  | .bool z => rfl
  | .str z => rfl
  | .rows z => rfl
  | .nil => rfl
  | .elem h i sz o => by simp only [Tm.den, subT, subT_den h, subT_den i]
  | .bin o a b => by simp only [Tm.den, subT, subT_den a, subT_den b]
  | .un o a => by simp only [Tm.den, subT, subT_den a]
  | .app f l => by simp only [Tm.den, subT, subTs_den l]; rfl
theorem subTs_den {v0 : Nat} {M : Mat} : ∀ l : List Tm, dens (E.back v0 M) l = dens E (subTs v0 M.si l)
  | [] => rfl
  | a :: l => by simp only [dens, subTs, subT_den a, subTs_den l]
end

/-- A term, and a value that is known. -/
def litIs : TK → Tm → Value → Bool
  | .int k, .int z, .int k' z' => decide (k = k') && decide (z = z') && (Lit.int k z).wf
  | .bool, .bool b, .bool b' => b == b'
  | .str, .str s, .string s' => decide (s = s')
  | .any, .nil, .slice none 0 0 => true
  | _, _, _ => false

theorem litIs_sound {k : TK} {t : Tm} (h : litIs k t x = true) : TR E k t x := by
  unfold litIs at h
  split at h
  · simp only [Bool.and_eq_true, decide_eq_true_eq] at h
    obtain ⟨⟨rfl, rfl⟩, h⟩ := h
    exact ⟨_, rfl, h, rfl⟩
  · simp only [beq_iff_eq] at h; subst h
    exact ⟨_, rfl, rfl⟩
  · simp only [decide_eq_true_eq] at h; subst h
    exact ⟨_, rfl, rfl⟩
  · exact ⟨rfl, rfl, rfl⟩
  · cases h

mutual
/-- Is a value with unknowns what another one is? -/
def fitA (v0 : Nat) (M : Mat) : AVal → AVal → Bool
  | .top, _ => true
  | .tm k t, .tm k' t' => decide (k = k') && beqT (subT v0 M.si t) t'
  | .tm k t, .lit v => litIs k (subT v0 M.si t) v
  | .lit v, .lit v' => beqV 100 v v'
  | .ptr b o, .ptr c p => decide (M.mu[b]? = some c) && decide (o = p)
  | .slice b o l m none, .slice b' o' l' m' none => decide (M.mu[b]? = some b') && decide (o = o') && decide (l = l') && decide (m = m')
  | .slice b o l m (some q), .slice b' o' l' m' (some q') => decide (M.mu[b]? = some b') && decide (o = o') && decide (l = l') && decide (m = m') && decide (M.nu[q]? = some q')
  | .map b, .map c => decide (M.mu[b]? = some c)
  | .func f p q, .func g p' q' => decide (f = g) && fitAs v0 M p p' && fitAs v0 M q q'
  | .iface t x, .iface u y => decide (t = u) && fitA v0 M x y
  | .agg l, .agg m => fitAs v0 M l m
  | .tuple l, .tuple m => fitAs v0 M l m
  | _, _ => false
def fitAs (v0 : Nat) (M : Mat) : List AVal → List AVal → Bool
  | [], [] => true
  | x :: l, y :: m => fitA v0 M x y && fitAs v0 M l m
  | _, _ => false
end

theorem back_rho {v0 : Nat} {M : Mat} {b c d : Nat} (h : M.mu[b]? = some c) (hc : E.rho c = some d) : (E.back v0 M).rho b = some d := by
  simp only [Env.back, h, Option.bind_some, hc]
theorem back_kap {v0 : Nat} {M : Mat} {b c d : Nat} (h : M.nu[b]? = some c) (hc : E.kap c = some d) : (E.back v0 M).kap b = some d := by
  simp only [Env.back, h, Option.bind_some, hc]

theorem TR_back {v0 : Nat} {M : Mat} {k : TK} {t : Tm} (h : TR E k (subT v0 M.si t) x) : TR (E.back v0 M) k t x := by
  cases k <;> simp only [TR, subT_den] at h ⊢ <;> exact h

mutual
theorem fitA_sound {v0 : Nat} {M : Mat} : ∀ (a b : AVal) (x : Value), fitA v0 M a b = true → VR E b x → VR (E.back v0 M) a x
  | .top, b, x, h, r => by simp only [VR]
  | .tm k t, b, x, h, r => by
    cases b <;> simp only [fitA, Bool.and_eq_true, decide_eq_true_eq, Bool.false_eq_true] at h
    · obtain ⟨rfl, h⟩ := h
      have := beqT_eq _ _ h
      simp only [VR] at r ⊢
      rw [← this] at r
      exact TR_back r
    · simp only [VR] at r ⊢
      subst r
      exact TR_back (litIs_sound h)
  | .lit v, b, x, h, r => by
    cases b <;> simp only [fitA, Bool.false_eq_true] at h
    have := beqV_eq _ _ _ h
    subst this
    simpa only [VR] using r
  | .ptr b o, c, x, h, r => by
    cases c <;> simp only [fitA, Bool.and_eq_true, decide_eq_true_eq, Bool.false_eq_true] at h
    obtain ⟨h1, rfl⟩ := h
    simp only [VR] at r ⊢
    obtain ⟨d, e1, e2⟩ := r
    exact ⟨d, back_rho h1 e1, e2⟩
  | .slice b o l m q, c, x, h, r => by
    cases c with
    | slice b' o' l' m' q' =>
      cases q <;> cases q' <;> simp only [fitA, Bool.and_eq_true, decide_eq_true_eq, Bool.false_eq_true] at h
      · obtain ⟨⟨⟨h1, rfl⟩, rfl⟩, rfl⟩ := h
        simp only [VR] at r ⊢
        obtain ⟨d, k, e1, e2, e3⟩ := r
        exact ⟨d, k, back_rho h1 e1, e2, e3⟩
      · obtain ⟨⟨⟨⟨h1, rfl⟩, rfl⟩, rfl⟩, h2⟩ := h
        simp only [VR] at r ⊢
        obtain ⟨d, k, e1, ⟨nn, f1, f2⟩, e3⟩ := r
        exact ⟨d, k, back_rho h1 e1, ⟨nn, back_kap h2 f1, f2⟩, e3⟩
    | _ => cases q <;> simp [fitA] at h
  | .map b, c, x, h, r => by
    cases c <;> simp only [fitA, decide_eq_true_eq, Bool.false_eq_true] at h
    simp only [VR] at r ⊢
    obtain ⟨d, e1, e2⟩ := r
    exact ⟨d, back_rho h e1, e2⟩
  | .func f p q, c, x, h, r => by
    cases c <;> simp only [fitA, Bool.and_eq_true, decide_eq_true_eq, Bool.false_eq_true] at h
    obtain ⟨⟨rfl, h1⟩, h2⟩ := h
    simp only [VR] at r ⊢
    obtain ⟨fs, gs, e1, e2, e3⟩ := r
    exact ⟨fs, gs, fitAs_sound _ _ _ h1 e1, fitAs_sound _ _ _ h2 e2, e3⟩
  | .iface t u, c, x, h, r => by
    cases c <;> simp only [fitA, Bool.and_eq_true, decide_eq_true_eq, Bool.false_eq_true] at h
    obtain ⟨rfl, h1⟩ := h
    simp only [VR] at r ⊢
    obtain ⟨y, e1, e2⟩ := r
    exact ⟨y, fitA_sound _ _ _ h1 e1, e2⟩
  | .agg l, c, x, h, r => by
    cases c <;> simp only [fitA, Bool.false_eq_true] at h
    simp only [VR] at r ⊢
    obtain ⟨y, e1, e2⟩ := r
    exact ⟨y, fitAs_sound _ _ _ h e1, e2⟩
  | .tuple l, c, x, h, r => by
    cases c <;> simp only [fitA, Bool.false_eq_true] at h
    simp only [VR] at r ⊢
    obtain ⟨y, e1, e2⟩ := r
    exact ⟨y, fitAs_sound _ _ _ h e1, e2⟩
theorem fitAs_sound {v0 : Nat} {M : Mat} : ∀ (l m : List AVal) (xs : List Value), fitAs v0 M l m = true → VRs E m xs → VRs (E.back v0 M) l xs
  | [], [], xs, h, r => by simpa only [VRs] using r
  | a :: l, b :: m, xs, h, r => by
    simp only [fitAs, Bool.and_eq_true] at h
    simp only [VRs] at r ⊢
    obtain ⟨x, s, e1, e2, e3⟩ := r
    exact ⟨x, s, fitA_sound _ _ _ h.1 e1, fitAs_sound _ _ _ h.2 e2, e3⟩
  | [], _ :: _, xs, h, r => by simp [fitAs] at h
  | _ :: _, [], xs, h, r => by simp [fitAs] at h
end

def fitEs (v0 : Nat) (M : Mat) : List AEnt → List AEnt → Bool
  | [], [] => true
  | a :: l, b :: m => fitA v0 M a.key b.key && fitA v0 M a.val b.val && decide (a.born = b.born) && fitEs v0 M l m
  | _, _ => false
theorem fitEs_sound {v0 : Nat} {M : Mat} : ∀ (l m : List AEnt) (xs : List MapEntry), fitEs v0 M l m = true → ER E m xs → ER (E.back v0 M) l xs
  | [], [], xs, h, r => by simpa only [ER] using r
  | a :: l, b :: m, xs, h, r => by
    simp only [fitEs, Bool.and_eq_true, decide_eq_true_eq] at h
    simp only [ER] at r ⊢
    obtain ⟨x, s, e1, e2, e3, e4, e5⟩ := r
    exact ⟨x, s, fitA_sound _ _ _ h.1.1.1 e1, fitA_sound _ _ _ h.1.1.2 e2, by rw [e3, h.1.2], fitEs_sound _ _ _ h.2 e4, e5⟩
  | [], _ :: _, xs, h, r => by simp [fitEs] at h
  | _ :: _, [], xs, h, r => by simp [fitEs] at h

def fitO (v0 : Nat) (M : Mat) : AObj → AObj → Bool
  | .cells l e fz none, .cells l' e' fz' none => fitAs v0 M l l' && decide (e = e') && decide (fz = fz')
  | .cells l e fz (some (q, s)), .cells l' e' fz' (some (q', s')) => fitAs v0 M l l' && decide (e = e') && decide (fz = fz') && decide (M.nu[q]? = some q') && decide (s = s')
  | .map es c, .map es' c' => fitEs v0 M es es' && decide (c = c')
  | .iter none a b c, .iter none a' b' c' => decide (a = a') && decide (b = b') && decide (c = c')
  | .iter (some m) a b c, .iter (some m') a' b' c' => decide (M.mu[m]? = some m') && decide (a = a') && decide (b = b') && decide (c = c')
  | _, _ => false

theorem fitO_sound {v0 : Nat} {M : Mat} {o o' : AObj} {u : Obj} (h : fitO v0 M o o' = true) (r : OR E o' u) : OR (E.back v0 M) o u := by
  unfold fitO at h
  split at h
  · simp only [Bool.and_eq_true, decide_eq_true_eq] at h
    obtain ⟨⟨h, rfl⟩, rfl⟩ := h
    obtain ⟨xs, h1, h2⟩ := r
    exact ⟨xs, fitAs_sound _ _ _ h h1, h2⟩
  · simp only [Bool.and_eq_true, decide_eq_true_eq] at h
    obtain ⟨⟨⟨⟨h, rfl⟩, rfl⟩, hq⟩, rfl⟩ := h
    obtain ⟨xs, tl, n, h1, h2, h3, h4⟩ := r
    exact ⟨xs, tl, n, fitAs_sound _ _ _ h h1, back_kap hq h2, h3, h4⟩
  · simp only [Bool.and_eq_true, decide_eq_true_eq] at h
    obtain ⟨h, rfl⟩ := h
    obtain ⟨xs, h1, h2⟩ := r
    exact ⟨xs, fitEs_sound _ _ _ h h1, h2⟩
  · simp only [Bool.and_eq_true, decide_eq_true_eq] at h
    obtain ⟨⟨rfl, rfl⟩, rfl⟩ := h
    obtain ⟨c, h1, h2⟩ := r
    exact ⟨c, h1, h2⟩
  · simp only [Bool.and_eq_true, decide_eq_true_eq] at h
    obtain ⟨⟨⟨hm, rfl⟩, rfl⟩, rfl⟩ := h
    obtain ⟨c, ⟨d, h1, h3⟩, h2⟩ := r
    exact ⟨c, ⟨d, back_rho hm h1, h3⟩, h2⟩
  · cases h

def fitStk (v0 : Nat) (M : Mat) : List (List AVal) → List (List AVal) → Bool
  | [], [] => true
  | a :: l, b :: m => fitAs v0 M a b && fitStk v0 M l m
  | _, _ => false
theorem fitStk_sound {v0 : Nat} {M : Mat} : ∀ (l m : List (List AVal)) (X : List (List Value)), fitStk v0 M l m = true → SR E m X → SR (E.back v0 M) l X
  | [], [], X, h, r => by simpa only [SR] using r
  | a :: l, b :: m, X, h, r => by
    simp only [fitStk, Bool.and_eq_true] at h
    simp only [SR] at r ⊢
    obtain ⟨x, s, e1, e2, e3⟩ := r
    exact ⟨x, s, fitAs_sound _ _ _ h.1 e1, fitStk_sound _ _ _ h.2 e2, e3⟩
  | [], _ :: _, xs, h, r => by simp [fitStk] at h
  | _ :: _, [], xs, h, r => by simp [fitStk] at h

/-- Two lists, place by place. -/
def zipAll {α β : Type} (f : α → β → Bool) : List α → List β → Bool
  | [], [] => true
  | a :: l, b :: m => f a b && zipAll f l m
  | _, _ => false
theorem zipAll_get {α β : Type} {f : α → β → Bool} : ∀ {l : List α} {m : List β} {i : Nat} {a : α}, zipAll f l m = true → l[i]? = some a → ∃ b, m[i]? = some b ∧ f a b = true
  | [], [], i, a, _, h => by simp at h
  | a' :: l, b :: m, i, a, h, ha => by
    simp only [zipAll, Bool.and_eq_true] at h
    cases i with
    | zero => simp at ha; subst ha; exact ⟨b, by simp, h.1⟩
    | succ i => simp at ha; simpa using zipAll_get h.2 ha
  | [], _ :: _, _, _, h, _ => by simp [zipAll] at h
  | _ :: _, [], _, _, h, _ => by simp [zipAll] at h
theorem zipAll_length {α β : Type} {f : α → β → Bool} : ∀ {l : List α} {m : List β}, zipAll f l m = true → l.length = m.length
  | [], [], _ => rfl
  | a' :: l, b :: m, h => by
    simp only [zipAll, Bool.and_eq_true] at h
    simp [zipAll_length h.2]
  | [], _ :: _, h => by simp [zipAll] at h
  | _ :: _, [], h => by simp [zipAll] at h

/-- An object: another one, or a nil list. -/
def fitOb (nl : Nat → Bool) (v0 : Nat) (M : Mat) (objs : List AOb) (o : AOb) : Option Nat → Bool
  | some j => match objs[j]? with
    | some p => decide (o.kind = p.kind) && beqT (subT v0 M.si o.h) p.h && beqTs (subTs v0 M.si o.gs) p.gs
    | none => false
  | none => nl o.kind && beqT (subT v0 M.si o.h) .nil && beqTs (subTs v0 M.si o.gs) [.rows []]

def nodupO : List (Option Nat) → Bool
  | [] => true
  | none :: l => nodupO l
  | some x :: l => !l.contains (some x) && nodupO l
theorem nodupO_sound : ∀ {l : List (Option Nat)}, nodupO l = true → ∀ {i j : Nat} {x : Nat}, l[i]? = some (some x) → l[j]? = some (some x) → i = j
  | [], _, i, j, x, h, _ => by simp at h
  | none :: l, h, i, j, x, hi, hj => by
    simp only [nodupO] at h
    cases i with
    | zero => simp at hi
    | succ i => cases j with
      | zero => simp at hj
      | succ j => simp at hi hj; rw [nodupO_sound h hi hj]
  | some y :: l, h, i, j, x, hi, hj => by
    simp only [nodupO, Bool.and_eq_true, Bool.not_eq_true', List.contains_eq_mem, decide_eq_false_iff_not] at h
    cases i with
    | zero =>
      simp at hi; subst hi
      cases j with
      | zero => rfl
      | succ j => simp at hj; exact absurd (List.mem_of_getElem? hj) h.1
    | succ i =>
      simp at hi
      cases j with
      | zero => simp at hj; subst hj; exact absurd (List.mem_of_getElem? hi) h.1
      | succ j => simp at hj; rw [nodupO_sound h.2 hi hj]

/-- The integers among some values. -/
def intsOf : List AVal → List Tm
  | [] => []
  | .tm (.int _) t :: l => t :: intsOf l
  | _ :: l => intsOf l
theorem intsOf_sound : ∀ {R : List AVal} {xs : List Value} {t : Tm}, VRs E R xs → t ∈ intsOf R → ∃ z, t.den E = some (.int z)
  | [], xs, t, _, h => by simp [intsOf] at h
  | a :: l, xs, t, hv, h => by
    simp only [VRs] at hv
    obtain ⟨x, r, h1, h2, _⟩ := hv
    unfold intsOf at h
    split at h
    · rename_i heq; cases heq
    · rename_i k u l' heq
      simp only [List.cons.injEq] at heq
      obtain ⟨rfl, rfl⟩ := heq
      rcases List.mem_cons.1 h with rfl | h
      · simp only [VR] at h1
        obtain ⟨z, h3, _⟩ := h1
        exact ⟨z, h3⟩
      · exact intsOf_sound h2 h
    · rename_i l' _ heq
      simp only [List.cons.injEq] at heq
      obtain ⟨_, rfl⟩ := heq
      exact intsOf_sound h2 h

def intT (ks : List Tm) (t : Tm) : Bool :=
  match t with
  | .int _ => true
  | t => ks.any (beqT t)
theorem intT_sound {ks : List Tm} {t : Tm} (hk : ∀ t ∈ ks, ∃ z, Tm.den E t = some (.int z)) (h : intT ks t = true) : ∃ z, t.den E = some (.int z) := by
  unfold intT at h
  split at h
  · exact ⟨_, rfl⟩
  · obtain ⟨u, h1, h2⟩ := List.any_eq_true.1 h
    rw [beqT_eq _ _ h2]; exact hk u h1

/-- The states of objects. -/
def gsOf (l : List AOb) : List Tm := l.flatMap fun o => o.gs

def hasT (ks ds : List Tm) (t : Tm) : Bool :=
  match t with
  | .int _ => true
  | .rows _ => true
  | t => ks.any (beqT t) || ds.any (beqT t)
theorem hasT_sound {ks ds : List Tm} {t : Tm} (hk : ∀ t ∈ ks, ∃ z, Tm.den E t = some (.int z)) (hd : ∀ t ∈ ds, ∃ z, Tm.den E t = some z) (h : hasT ks ds t = true) : ∃ z, t.den E = some z := by
  unfold hasT at h
  split at h
  · exact ⟨_, rfl⟩
  · exact ⟨_, rfl⟩
  · simp only [Bool.or_eq_true] at h
    rcases h with h | h
    · obtain ⟨u, h1, h2⟩ := List.any_eq_true.1 h
      rw [beqT_eq _ _ h2]
      obtain ⟨z, hz⟩ := hk u h1
      exact ⟨_, hz⟩
    · obtain ⟨u, h1, h2⟩ := List.any_eq_true.1 h
      rw [beqT_eq _ _ h2]; exact hd u h1

theorem dens_mem {t : Tm} : ∀ {l : List Tm} {us : List U}, dens E l = some us → t ∈ l → ∃ z, t.den E = some z
  | [], us, h, hm => by simp at hm
  | a :: l, us, h, hm => by
    simp only [dens] at h
    split at h
    · rename_i x xs h1 h2
      rcases List.mem_cons.1 hm with rfl | hm
      · exact ⟨x, h1⟩
      · exact dens_mem h2 hm
    · cases h

/-- Does a condition mean something? -/
def condDef (ks ds : List Tm) : Tm → Bool
  | .bin .lt a b => intT ks a && intT ks b
  | .bin .eq a b => intT ks a && intT ks b
  | .bin (.grow _ _) a b => hasT ks ds a && hasT ks ds b
  | _ => false
theorem condDef_sound {ks ds : List Tm} {t : Tm} (hk : ∀ t ∈ ks, ∃ z, Tm.den E t = some (.int z)) (hds : ∀ t ∈ ds, ∃ z, Tm.den E t = some z) (h : condDef ks ds t = true) : ∃ r, t.den E = some (.bool r) := by
  unfold condDef at h
  split at h
  · simp only [Bool.and_eq_true] at h
    obtain ⟨x, hx⟩ := intT_sound hk h.1
    obtain ⟨y, hy⟩ := intT_sound hk h.2
    exact ⟨decide (x < y), by simp only [Tm.den, hx, hy, TOp.den]⟩
  · simp only [Bool.and_eq_true] at h
    obtain ⟨x, hx⟩ := intT_sound hk h.1
    obtain ⟨y, hy⟩ := intT_sound hk h.2
    exact ⟨decide (x = y), by simp only [Tm.den, hx, hy, TOp.den]⟩
  · simp only [Bool.and_eq_true] at h
    obtain ⟨x, hx⟩ := hasT_sound hk hds h.1
    obtain ⟨y, hy⟩ := hasT_sound hk hds h.2
    exact ⟨growB _ _ x y, by simp only [Tm.den, hx, hy, TOp.den]; rfl⟩
  · cases h

def fitC (v0 : Nat) (M : Mat) (ks ds : List Tm) (cs : Conds) (p : Tm × Bool) : Bool :=
  match lookC cs (subT v0 M.si p.1) with
  | some b => b == p.2
  | none => condDef ks ds (subT v0 M.si p.1) && known cs (subT v0 M.si p.1) == some p.2

theorem fitC_sound {v0 : Nat} {M : Mat} {ks ds : List Tm} {cs : Conds} {p : Tm × Bool} (hk : ∀ t ∈ ks, ∃ z, Tm.den E t = some (.int z)) (hds : ∀ t ∈ ds, ∃ z, Tm.den E t = some z) (hc : CondsOk E cs) (h : fitC v0 M ks ds cs p = true) : p.1.den (E.back v0 M) = some (.bool p.2) := by
  rw [subT_den]
  unfold fitC at h
  split at h
  · rename_i b hb
    simp only [beq_iff_eq] at h
    rw [← h]; exact lookC_sound hc hb
  · simp only [Bool.and_eq_true, beq_iff_eq] at h
    obtain ⟨r, hr⟩ := condDef_sound hk hds h.1
    rw [hr, known_sound hc h.2 hr]

def fits (nl : Nat → Bool) (T : Tmpl) (M : Mat) (R : List AVal) (S : St) : Bool :=
  nodup M.mu && nodupO M.om && fitAs T.v0 M T.R R &&
  zipAll (fun o c => match S.heap[c]? with
    | some o' => fitO T.v0 M o o'
    | none => false) T.S.heap M.mu &&
  zipAll (fun m q => match S.caps[q]? with
    | some m' => decide (m ≤ m')
    | none => false) T.S.caps M.nu &&
  fitStk T.v0 M T.S.stk S.stk &&
  zipAll (fitOb nl T.v0 M S.x.objs) T.S.x.objs M.om &&
  T.S.x.conds.all (fitC T.v0 M (intsOf R) (gsOf S.x.objs) S.x.conds) &&
  decide (T.S.x.nv = T.v0 + M.si.length)

theorem fits_sound {T : Tmpl} {M : Mat} {R : List AVal} (hK : ∀ n, (K.vars n).isSome → n < T.v0) (hok : Ok K E S X w) (hR : VRs E R xs) (h : fits K.ob.nils T M R S = true) :
    VRs (E.back T.v0 M) T.R xs ∧ Ok K (E.back T.v0 M) T.S X w := by
  unfold fits at h
  simp only [Bool.and_eq_true, decide_eq_true_eq] at h
  obtain ⟨⟨⟨⟨⟨⟨⟨⟨h1, h2⟩, h3⟩, h4⟩, h5⟩, h6⟩, h7⟩, h8⟩, h9⟩ := h
  have hmu : ∀ b c, (E.back T.v0 M).rho b = some c → ∃ b', M.mu[b]? = some b' ∧ E.rho b' = some c := by
    intro b c hb
    simp only [Env.back, Option.bind_eq_some_iff] at hb
    exact hb
  have hfp : ∀ i c, (E.back T.v0 M).fp i c → ∃ j, M.om[i]? = some (some j) ∧ E.fp j c := by
    intro i c hc
    cases ho : M.om[i]? with
    | none => simp only [Env.back, ho] at hc
    | some oj => cases oj with
      | none => simp only [Env.back, ho] at hc
      | some j => simp only [Env.back, ho] at hc; exact ⟨j, rfl, hc⟩
  have hpp : ∀ i c, (E.back T.v0 M).pp i c → ∃ j, M.om[i]? = some (some j) ∧ E.pp j c := by
    intro i c hc
    cases ho : M.om[i]? with
    | none => simp only [Env.back, ho] at hc
    | some oj => cases oj with
      | none => simp only [Env.back, ho] at hc
      | some j => simp only [Env.back, ho] at hc; exact ⟨j, rfl, hc⟩
  have hom : ∀ i j, i < T.S.x.objs.length → M.om[i]? = some (some j) → j < S.x.objs.length := by
    intro i j hi hj
    obtain ⟨oj, g1, g2⟩ := zipAll_get h7 (List.getElem?_eq_getElem hi)
    rw [hj] at g1
    obtain rfl := Option.some.inj g1
    simp only [fitOb] at g2
    split at g2
    · rename_i p hp; exact (List.getElem?_eq_some_iff.1 hp).1
    · cases g2
  have hgs : ∀ t ∈ gsOf S.x.objs, ∃ z, Tm.den E t = some z := fun t ht => by
    unfold gsOf at ht
    obtain ⟨o, h1, h2⟩ := List.mem_flatMap.1 ht
    obtain ⟨i, hi⟩ := List.getElem?_of_mem h1
    obtain ⟨v, us, _, e2, _⟩ := hok.x.objs i o hi
    exact dens_mem e2 h2
  have hints : ∀ t ∈ intsOf R, ∃ z, Tm.den E t = some (.int z) := fun t ht => intsOf_sound hR ht
  refine ⟨fitAs_sound _ _ _ h3 hR, fun b hb => ?_, fun b o ho => ?_, fun b b' c hb hb' => ?_, fun q hq => ?_, fun q m hq => ?_, hok.below, hok.base, fitStk_sound _ _ _ h6 hok.stk, ?_⟩
  · rw [zipAll_length h4]
    obtain ⟨c, hc⟩ := Option.isSome_iff_exists.1 hb
    obtain ⟨b', g1, _⟩ := hmu b c hc
    exact (List.getElem?_eq_some_iff.1 g1).1
  · obtain ⟨c, g1, g2⟩ := zipAll_get h4 ho
    split at g2
    · rename_i o' ho'
      obtain ⟨d, u, e1, e2, e3, e4⟩ := hok.obj c o' ho'
      exact ⟨d, u, back_rho g1 e1, e2, e3, fitO_sound g2 e4⟩
    · cases g2
  · obtain ⟨c1, e1, e2⟩ := hmu b c hb
    obtain ⟨c2, f1, f2⟩ := hmu b' c hb'
    have := hok.inj _ _ _ e2 f2
    subst this
    exact nodup_sound h1 e1 f1
  · rw [zipAll_length h5]
    simp only [Env.back] at hq
    rcases Nat.lt_or_ge q M.nu.length with g | g
    · exact g
    · rw [List.getElem?_eq_none g] at hq; cases hq
  · obtain ⟨c, g1, g2⟩ := zipAll_get h5 hq
    split at g2
    · rename_i m' hm'
      obtain ⟨n, e1, e2, e3⟩ := hok.lb c m' hm'
      have := of_decide_eq_true g2
      exact ⟨n, back_kap g1 e1, by omega, e3⟩
    · cases g2
  · refine ⟨hok.x.fn, fun i o ho => ?_, fun i j hi hj hij c hc hc' => ?_, fun i j hi hj c hc hc' => ?_, fun i b c hi hb => ?_, fun i c hi hc => ?_, fun i c hi hc => ?_, fun p hp => ?_, fun n hn => ?_, fun n u hn => ?_⟩
    · obtain ⟨oj, g1, g2⟩ := zipAll_get h7 ho
      cases oj with
      | none =>
        simp only [fitOb, Bool.and_eq_true] at g2
        obtain ⟨⟨e1, e2⟩, e3⟩ := g2
        have e2 := beqT_eq _ _ e2
        have e3 := beqTs_eq _ _ e3
        refine ⟨.slice none 0 0, [.rows []], by rw [subT_den, e2]; rfl, by rw [subTs_den, e3]; rfl, ?_⟩
        have := K.ob.hnil o.kind w e1
        have hD : (E.back T.v0 M).fp i = fun _ => False := by
          funext c; simp only [Env.back, g1]
        have hP : (E.back T.v0 M).pp i = fun _ => False := by
          funext c; simp only [Env.back, g1]
        rw [hD, hP]; exact this
      | some j =>
        simp only [fitOb] at g2
        split at g2
        · rename_i p hp
          simp only [Bool.and_eq_true, decide_eq_true_eq] at g2
          obtain ⟨⟨e1, e2⟩, e3⟩ := g2
          have e2 := beqT_eq _ _ e2
          have e3 := beqTs_eq _ _ e3
          obtain ⟨v, gs, f1, f2, f3⟩ := hok.x.objs j p hp
          refine ⟨v, gs, by rw [subT_den, e2]; exact f1, by rw [subTs_den, e3]; exact f2, ?_⟩
          have hD : (E.back T.v0 M).fp i = E.fp j := by
            funext c; simp only [Env.back, g1]
          have hP : (E.back T.v0 M).pp i = E.pp j := by
            funext c; simp only [Env.back, g1]
          rw [hD, hP, e1]; exact f3
        · cases g2
    · obtain ⟨i', e1, e2⟩ := hfp i c hc
      obtain ⟨j', f1, f2⟩ := hfp j c hc'
      have hne : i' ≠ j' := by rintro rfl; exact hij (nodupO_sound h2 e1 f1)
      exact hok.x.odis i' j' (hom i i' hi e1) (hom j j' hj f1) hne c e2 f2
    · obtain ⟨i', e1, e2⟩ := hpp i c hc
      obtain ⟨j', f1, f2⟩ := hfp j c hc'
      exact hok.x.opp i' j' (hom i i' hi e1) (hom j j' hj f1) c e2 f2
    · obtain ⟨b', e1, e2⟩ := hmu b c hb
      refine ⟨fun hc => ?_, fun hc => ?_⟩
      · obtain ⟨i', f1, f2⟩ := hfp i c hc
        exact (hok.x.onam i' b' c (hom i i' hi f1) e2).1 f2
      · obtain ⟨i', f1, f2⟩ := hpp i c hc
        exact (hok.x.onam i' b' c (hom i i' hi f1) e2).2 f2
    · obtain ⟨i', f1, f2⟩ := hfp i c hc
      exact hok.x.obnd i' c (hom i i' hi f1) f2
    · obtain ⟨i', f1, f2⟩ := hpp i c hc
      exact hok.x.pbnd i' c (hom i i' hi f1) f2
    · exact fitC_sound hints hgs hok.x.conds (List.all_eq_true.1 h8 p hp)
    · simp only [Env.back] at hn
      rw [h9]
      split at hn
      · omega
      · rcases Nat.lt_or_ge (n - T.v0) M.si.length with g | g
        · omega
        · rw [List.getElem?_eq_none g] at hn; cases hn
    · have hlt := hK n (by simp [hn])
      simp only [Env.back, hlt, if_true]
      exact hok.x.base n u hn

end Go.Eng

namespace Go.Eng
open Go.RowKit

variable {P : Program} {K : Fix} {E F : Env} {S S' : St} {X : List (List Value)} {w w' : World} {a b v : AVal} {x y : Value} {t s : TypeId} {l r : List AVal} {xs : List Value} {i j n off f : Nat}

/-! ### code -/

inductive AExit where
  | normal
  | exit (id : Nat)
  | ret

def AExit.conc : AExit → Exit
  | .normal => .normal
  | .exit id => .exit id
  | .ret => .ret

abbrev Outs := List (AExit × List AVal × St)

/-- A frame's values, out of the tuple that bore them. -/
def unT : AVal → List AVal
  | .tuple l => l
  | .lit (.tuple xs) => xs.toList.map .lit
  | _ => []

theorem unT_sound {ys : List Value} : ∀ {v : AVal}, isTop v = false → VR E v (.tuple ys.toArray) → VRs E (unT v) ys
  | .top, h, _ => by cases h
  | .tuple l, _, h => by
    simp only [VR] at h; obtain ⟨xs, h1, h2⟩ := h
    simp only [Value.tuple.injEq] at h2
    have : ys = xs := by simpa using congrArg Array.toList h2
    rw [this]; exact h1
  | .lit z, _, h => by
    simp only [VR] at h; subst h
    exact VRs.lits ys
  | .tm k t, _, h => by
    simp only [VR] at h
    cases k with
    | int k => obtain ⟨_, _, _, h⟩ := h; cases h
    | raw k => obtain ⟨_, _, h⟩ := h; cases h
    | bool => obtain ⟨_, _, h⟩ := h; cases h
    | str => obtain ⟨_, _, h⟩ := h; cases h
    | ptr => obtain ⟨_, _, h⟩ := h; cases h
    | any => obtain ⟨_, h, _⟩ := h; cases h
  | .ptr .., _, h => by simp only [VR] at h; obtain ⟨_, _, h⟩ := h; cases h
  | .slice .., _, h => by simp only [VR] at h; obtain ⟨_, _, _, _, h⟩ := h; cases h
  | .map .., _, h => by simp only [VR] at h; obtain ⟨_, _, h⟩ := h; cases h
  | .func .., _, h => by simp only [VR] at h; obtain ⟨_, _, _, _, h⟩ := h; cases h
  | .iface .., _, h => by simp only [VR] at h; obtain ⟨_, _, h⟩ := h; cases h
  | .agg .., _, h => by simp only [VR] at h; obtain ⟨_, _, h⟩ := h; cases h

/-- The ways in which a round goes on, those that are one taken once. -/
def mergeR : List (List AVal × St) → List (List AVal × St)
  | [] => []
  | [p] => [p]
  | p :: q :: l => if (merge ((p :: q :: l).map fun r : List AVal × St => (AVal.tuple r.1, r.2))).all (fun z => !isTop z.1) = true then (merge ((p :: q :: l).map fun r : List AVal × St => (AVal.tuple r.1, r.2))).map fun z => (unT z.1, z.2) else p :: q :: l

theorem mergeR_sound {R : List AVal} {l : List (List AVal × St)} (h : Ok K E S X w) (hR : VRs E R xs) (hm : (R, S) ∈ l) : ∃ R' S' E', (R', S') ∈ mergeR l ∧ VRs E' R' xs ∧ Ok K E' S' X w := by
  match l, hm with
  | [p], hm => exact ⟨R, S, E, hm, hR, h⟩
  | p :: q :: l, hm =>
    have hv : VR E (.tuple R) (.tuple xs.toArray) := by simp only [VR]; exact ⟨xs, hR, rfl⟩
    obtain ⟨v', S', E', m1, m2, m3⟩ := merge_sound h hv (List.mem_map (f := fun r : List AVal × St => (AVal.tuple r.1, r.2)) |>.2 ⟨(R, S), hm, rfl⟩)
    simp only [mergeR]
    split
    · rename_i hall
      have := List.all_eq_true.1 hall _ m1
      exact ⟨unT v', S', E', List.mem_map.2 ⟨(v', S'), m1, rfl⟩, unT_sound (by simpa using this) m2, m3⟩
    · exact ⟨R, S, E, hm, hR, h⟩

def onOf (o : Outs) : List (List AVal × St) := o.filterMap fun p => match p.1 with
  | .normal => some p.2
  | _ => none
def offOf (o : Outs) : Outs := o.filter fun p => match p.1 with
  | .normal => false
  | _ => true

def iterL (body : List AVal → St → Option Outs) : Nat → List (List AVal × St) → Option Outs
  | _, [] => some []
  | 0, _ :: _ => none
  | n + 1, p :: l => (bindAll (fun p => body p.1 p.2) (p :: l)).bind fun o => (iterL body n (mergeR (onOf o))).map fun z => offOf o ++ z

/-- What is told of code: each way in which it may be left is among those that are told. -/
def CodeOk (P : Program) (K : Fix) (X : List (List Value)) (c : Code) (f : List AVal → St → Option Outs) : Prop :=
  ∀ {R : List AVal} {S : St} {E : Env} {w : World} {ac : Act} {outs : Outs} {Q : Exit → Act → World → Prop}, Ok K E S X w → VRs E R ac.tmps.toList → ac.defers = [] → f R S = some outs →
    (∀ e R' S' E' w' ac', (e, R', S') ∈ outs → VRs E' R' ac'.tmps.toList → Ok K E' S' X w' → ac'.defers = [] → Q (AExit.conc e) ac' w') → c.wp P Q ac w

theorem iterL_sound {c : Code} {body : List AVal → St → Option Outs} (hb : CodeOk P K X c body) : ∀ {n : Nat} {l : List (List AVal × St)} {R : List AVal} {S : St} {E : Env} {w : World} {ac : Act} {outs : Outs} {Q : Exit → Act → World → Prop},
    (R, S) ∈ l → Ok K E S X w → VRs E R ac.tmps.toList → ac.defers = [] → iterL body n l = some outs →
    (∀ e R' S' E' w' ac', (e, R', S') ∈ outs → VRs E' R' ac'.tmps.toList → Ok K E' S' X w' → ac'.defers = [] → Q (AExit.conc e) ac' w') → Code.rounds P c Q n ac w
  | n, [], R, S, E, w, ac, outs, Q, hl, h, hR, hd, hv, hq => by cases hl
  | 0, p :: l, R, S, E, w, ac, outs, Q, hl, h, hR, hd, hv, hq => by simp [iterL] at hv
  | n + 1, p :: l, R, S, E, w, ac, outs, Q, hl, h, hR, hd, hv, hq => by
    simp only [iterL, Option.bind_eq_some_iff, Option.map_eq_some_iff] at hv
    obtain ⟨o, ho, z, hz, rfl⟩ := hv
    obtain ⟨ys, hy, hsub⟩ := bindAll_mem ho hl
    rw [rounds_succ]
    refine hb h hR hd hy ?_
    intro e R' S' E' w' ac' hmem hR' h' hd'
    have hin := hsub _ hmem
    cases e with
    | normal =>
      have hon : (R', S') ∈ onOf o := List.mem_filterMap.2 ⟨(.normal, R', S'), hin, rfl⟩
      obtain ⟨R2, S2, E2, m1, m2, m3⟩ := mergeR_sound h' hR' hon
      exact iterL_sound hb m1 m3 m2 hd' hz fun e R3 S3 E3 w3 ac3 hm3 => hq e R3 S3 E3 w3 ac3 (List.mem_append_right _ hm3)
    | exit id => exact hq (.exit id) R' S' E' w' ac' (List.mem_append_left _ (List.mem_filter.2 ⟨hin, rfl⟩)) hR' h' hd'
    | ret => exact hq .ret R' S' E' w' ac' (List.mem_append_left _ (List.mem_filter.2 ⟨hin, rfl⟩)) hR' h' hd'

end Go.Eng

namespace Go.Eng
open Go.RowKit

variable {P : Program} {K : Fix} {E F : Env} {S S' : St} {X : List (List Value)} {w w' : World} {a b v : AVal} {x y : Value} {t s : TypeId} {l r : List AVal} {xs : List Value} {i j n off f : Nat}

/-! ### the rule of a loop -/

mutual
/-- Does a term speak of no unknown from v0 on? -/
def closedT (v0 : Nat) : Tm → Bool
  | .var n => decide (n < v0)
  | .elem h i _ _ => closedT v0 h && closedT v0 i
  | .bin _ a b => closedT v0 a && closedT v0 b
  | .un _ a => closedT v0 a
  | .app _ l => closedTs v0 l
  | _ => true
def closedTs (v0 : Nat) : List Tm → Bool
  | [] => true
  | a :: l => closedT v0 a && closedTs v0 l
end

mutual
theorem closedT_sub {v0 : Nat} {si : List Tm} : ∀ (t : Tm), closedT v0 t = true → subT v0 si t = t
  | .var n, h => by
    simp only [closedT, decide_eq_true_eq] at h
    simp only [subT, h, if_true]
  | .int z, h => rfl
  | .bool z, h => rfl
  | .str z, h => rfl
  | .rows z, h => rfl
  | .nil, h => rfl
  | .elem p i sz o, h => by
    simp only [closedT, Bool.and_eq_true] at h
    simp only [subT, closedT_sub p h.1, closedT_sub i h.2]
  | .bin o a b, h => by
    simp only [closedT, Bool.and_eq_true] at h
    simp only [subT, closedT_sub a h.1, closedT_sub b h.2]
  | .un o a, h => by
    simp only [closedT] at h
    simp only [subT, closedT_sub a h]
  | .app f l, h => by
    simp only [closedT] at h
    simp only [subT, closedTs_sub l h]
theorem closedTs_sub {v0 : Nat} {si : List Tm} : ∀ (l : List Tm), closedTs v0 l = true → subTs v0 si l = l
  | [], _ => rfl
  | a :: l, h => by
    simp only [closedTs, Bool.and_eq_true] at h
    simp only [subTs, closedT_sub a h.1, closedTs_sub l h.2]
end

theorem den_grow {E F : Env} (hv : ∀ n u, E.var n = some u → F.var n = some u) (hf : F.fn = E.fn) {t : Tm} {u : U} (h : t.den E = some u) : t.den F = some u := by
  have hle : E.Le { E with var := F.var } := ⟨fun _ _ h => h, fun _ _ h => h, hv, rfl⟩
  have h1 := Tm.den_mono hle t u h
  rw [den_same (F := F) (E := { E with var := F.var }) rfl hf]
  exact h1

/-- What is known of unknowns is held fast. -/
def Fix.tie (K : Fix) (E : Env) : Fix := { K with vars := E.var }
theorem Ok.tie (h : Ok K E S X w) : Ok (K.tie E) E S X w :=
  ⟨h.dom, h.obj, h.inj, h.kdom, h.lb, h.below, h.base, h.stk, ⟨h.x.fn, h.x.objs, h.x.odis, h.x.opp, h.x.onam, h.x.obnd, h.x.pbnd, h.x.conds, h.x.vars, fun _ _ h => h⟩⟩
theorem Ok.untie (h : Ok (K.tie F) E S X w) (hF : ∀ n u, K.vars n = some u → F.var n = some u) : Ok K E S X w :=
  ⟨h.dom, h.obj, h.inj, h.kdom, h.lb, h.below, h.base, h.stk, ⟨h.x.fn, h.x.objs, h.x.odis, h.x.opp, h.x.onam, h.x.obnd, h.x.pbnd, h.x.conds, h.x.vars, fun n u hn => h.x.base n u (hF n u hn)⟩⟩

/-- A loop's measure: an unknown that goes up by one, below a bound. -/
structure Meas where
  vi : Nat
  k : IntKind
  tn : Tm

def hasTm (k : IntKind) (t : Tm) (R : List AVal) : Bool := R.any fun a => match a with
  | .tm (.int k') t' => decide (k = k') && beqT t t'
  | _ => false

theorem hasTm_sound {k : IntKind} {t : Tm} {R : List AVal} {xs : List Value} (hR : VRs E R xs) (h : hasTm k t R = true) : ∃ z, t.den E = some (.int z) ∧ (Lit.int k z).wf = true := by
  unfold hasTm at h
  obtain ⟨a, h1, h2⟩ := List.any_eq_true.1 h
  obtain ⟨i, hi⟩ := List.getElem?_of_mem h1
  obtain ⟨x, _, hx⟩ := hR.get hi
  split at h2
  · simp only [Bool.and_eq_true, decide_eq_true_eq] at h2
    obtain ⟨rfl, h3⟩ := h2
    simp only [VR] at hx
    obtain ⟨z, e1, e2, _⟩ := hx
    exact ⟨z, by rw [beqT_eq _ _ h3]; exact e1, e2⟩
  · cases h2

def measOk (T : Tmpl) (m : Meas) : Bool :=
  decide (T.v0 ≤ m.vi) && hasTm m.k (.var m.vi) T.R && closedT T.v0 m.tn && (match m.tn with
    | .int z => (Lit.int m.k z).wf
    | t => hasTm m.k t T.R)

theorem measOk_sound {T : Tmpl} {m : Meas} (hR : VRs E T.R xs) (h : measOk T m = true) : T.v0 ≤ m.vi ∧ closedT T.v0 m.tn = true ∧
    (∃ z, E.var m.vi = some (.int z) ∧ (Lit.int m.k z).wf = true) ∧ ∃ z, m.tn.den E = some (.int z) ∧ (Lit.int m.k z).wf = true := by
  unfold measOk at h
  simp only [Bool.and_eq_true, decide_eq_true_eq] at h
  obtain ⟨⟨⟨h1, h2⟩, h3⟩, h4⟩ := h
  refine ⟨h1, h3, hasTm_sound hR h2, ?_⟩
  split at h4
  · rename_i z hz; rw [hz]; exact ⟨z, rfl, h4⟩
  · exact hasTm_sound hR h4

def stepOk (T : Tmpl) (m : Meas) (M : Mat) (S : St) : Bool :=
  (match M.si[m.vi - T.v0]? with
    | some t => beqT t (.bin (.ar .add m.k) (.var m.vi) (.int 1))
    | none => false) && lookC S.x.conds (.bin .lt (.var m.vi) m.tn) == some true

abbrev Finder := Tmpl → List AVal → St → Option Mat

def roundOk (nl : Nat → Bool) (find : Finder) (T : Tmpl) (m : Meas) (p : AExit × List AVal × St) : Bool :=
  match p.1 with
  | .normal => match find T p.2.1 p.2.2 with
    | some M => fits nl T M p.2.1 p.2.2 && stepOk T m M p.2.2
    | none => false
  | _ => true

/-- The unknown that goes up is not below nought. -/
def Tmpl.S0 (T : Tmpl) (m : Meas) : St := T.S.withC (.bin .lt (.var m.vi) (.int 0)) false

def startOk (T : Tmpl) (m : Meas) (M : Mat) : Bool :=
  match M.si[m.vi - T.v0]? with
  | some (.int z) => decide (0 ≤ z)
  | _ => false

def loopEval (nl : Nat → Bool) (find : Finder) (body : List AVal → St → Option Outs) (T : Tmpl) (m : Meas) (R : List AVal) (S : St) : Option Outs :=
  match find T R S with
  | none => none
  | some M0 =>
    if fits nl T M0 R S && measOk T m && decide (S.x.nv ≤ T.v0) && startOk T m M0 then
      match body T.R (T.S0 m) with
      | none => none
      | some outs => if outs.all (roundOk nl find T m) then some (offOf outs) else none
    else none

theorem rounds_tmpl {c : Code} {body : List AVal → St → Option Outs} {find : Finder} {T : Tmpl} {m : Meas} {outs : Outs} {Q : Exit → Act → World → Prop}
    (hb : ∀ E, CodeOk P (K.tie E) X c body) (hK : ∀ n, (K.vars n).isSome → n < T.v0) (ho : body T.R (T.S0 m) = some outs) (hall : outs.all (roundOk K.ob.nils find T m) = true) (hm : measOk T m = true) :
    ∀ (d : Nat) {E : Env} {w : World} {ac : Act} {I N : Int}, Ok K E T.S X w → VRs E T.R ac.tmps.toList → ac.defers = [] → E.var m.vi = some (.int I) → 0 ≤ I → m.tn.den E = some (.int N) → N - I ≤ d →
    (∀ e R' S' E' w' ac', (e, R', S') ∈ offOf outs → VRs E' R' ac'.tmps.toList → Ok K E' S' X w' → ac'.defers = [] → Q (AExit.conc e) ac' w') → Code.rounds P c Q (d + 1) ac w := by
  intro d
  induction d with
  | zero =>
    intro E w ac I N hok hR hd hI hI0 hN hle hq
    rw [rounds_succ]
    have hlow : (Tm.bin .lt (.var m.vi) (.int 0)).den E = some (.bool false) := by
      simp only [Tm.den, hI, TOp.den]
      congr 2
      exact decide_eq_false (by omega)
    refine hb E (hok.tie.withC hlow) hR hd ho ?_
    intro e R' S' E' w' ac' hmem hR' hok' hd'
    have hok2 := hok'.untie hok.x.base
    cases e with
    | normal =>
      exfalso
      have hr := List.all_eq_true.1 hall _ hmem
      simp only [roundOk] at hr
      split at hr
      · rename_i M hM
        simp only [Bool.and_eq_true, stepOk, beq_iff_eq] at hr
        have hc := lookC_sound hok'.x.conds hr.2.2
        obtain ⟨p, q, e1, e2, e3⟩ := den_lt hc
        have hI' := hok'.x.base _ _ hI
        have hN' := den_grow (F := E') (fun n u hn => hok'.x.base n u hn) (hok'.x.fn.trans hok.x.fn.symm) hN
        rw [hN'] at e2
        simp only [Tm.den] at e1
        rw [hI'] at e1
        simp only [Option.some.injEq, U.int.injEq] at e1 e2
        have := of_decide_eq_true e3.symm
        omega
      · cases hr
    | exit id => exact hq (.exit id) R' S' E' w' ac' (List.mem_filter.2 ⟨hmem, rfl⟩) hR' hok2 hd'
    | ret => exact hq .ret R' S' E' w' ac' (List.mem_filter.2 ⟨hmem, rfl⟩) hR' hok2 hd'
  | succ d ih =>
    intro E w ac I N hok hR hd hI hI0 hN hle hq
    rw [rounds_succ]
    have hlow : (Tm.bin .lt (.var m.vi) (.int 0)).den E = some (.bool false) := by
      simp only [Tm.den, hI, TOp.den]
      congr 2
      exact decide_eq_false (by omega)
    refine hb E (hok.tie.withC hlow) hR hd ho ?_
    intro e R' S' E' w' ac' hmem hR' hok' hd'
    have hok2 := hok'.untie hok.x.base
    cases e with
    | normal =>
      have hr := List.all_eq_true.1 hall _ hmem
      simp only [roundOk] at hr
      split at hr
      · rename_i M hM
        simp only [Bool.and_eq_true, stepOk, beq_iff_eq] at hr
        obtain ⟨hfit, hsi, hlk⟩ := hr
        have hc := lookC_sound hok'.x.conds hlk
        obtain ⟨p, q, e1, e2, e3⟩ := den_lt hc
        have hI' := hok'.x.base _ _ hI
        have hN' := den_grow (F := E') (fun n u hn => hok'.x.base n u hn) (hok'.x.fn.trans hok.x.fn.symm) hN
        rw [hN'] at e2
        simp only [Tm.den] at e1
        rw [hI'] at e1
        simp only [Option.some.injEq, U.int.injEq] at e1 e2
        subst e1 e2
        have hlt := of_decide_eq_true e3.symm
        obtain ⟨g1, g2⟩ := fits_sound hK hok2 hR' hfit
        obtain ⟨hv0, hcl, ⟨zi, hzi, hwi⟩, zn, hzn, hwn⟩ := measOk_sound hR hm
        rw [hI] at hzi
        rw [hN] at hzn
        simp only [Option.some.injEq, U.int.injEq] at hzi hzn
        subst hzi hzn
        rw [wf_bounds] at hwi hwn
        split at hsi
        · rename_i t ht
          have hte := beqT_eq _ _ hsi
          have hI2 : (E'.back T.v0 M).var m.vi = some (.int (I + 1)) := by
            simp only [Env.back]
            rw [if_neg (by omega), ht, Option.bind_some, hte]
            simp only [Tm.den, hI', TOp.den]
            rw [wrap_in (by omega) (by omega)]
          have hN2 : m.tn.den (E'.back T.v0 M) = some (.int N) := by
            rw [subT_den, closedT_sub _ hcl]; exact hN'
          exact ih g2 g1 hd' hI2 (by omega) hN2 (by omega) hq
        · cases hsi
      · cases hr
    | exit id => exact hq (.exit id) R' S' E' w' ac' (List.mem_filter.2 ⟨hmem, rfl⟩) hR' hok2 hd'
    | ret => exact hq .ret R' S' E' w' ac' (List.mem_filter.2 ⟨hmem, rfl⟩) hR' hok2 hd'

theorem loopEval_sound {c : Code} {body : List AVal → St → Option Outs} {find : Finder} {T : Tmpl} {m : Meas} (hb : ∀ E, CodeOk P (K.tie E) X c body) :
    CodeOk P K X (.loop c) (loopEval K.ob.nils find body T m) := by
  intro R S E w ac outs Q hok hR hd hv hq
  unfold loopEval at hv
  split at hv
  · cases hv
  · rename_i M0 hM0
    split at hv
    · rename_i hc
      simp only [Bool.and_eq_true, decide_eq_true_eq] at hc
      obtain ⟨⟨⟨hfit, hm⟩, hnv⟩, hst⟩ := hc
      split at hv
      · cases hv
      · rename_i os hos
        split at hv
        · rename_i hall
          obtain rfl := Option.some.inj hv
          have hK : ∀ n, (K.vars n).isSome → n < T.v0 := fun n hn => by
            obtain ⟨u, hu⟩ := Option.isSome_iff_exists.1 hn
            have := hok.x.vars n (by rw [hok.x.base n u hu]; rfl)
            omega
          obtain ⟨g1, g2⟩ := fits_sound hK hok hR hfit
          obtain ⟨_, _, ⟨zi, hzi, _⟩, zn, hzn, _⟩ := measOk_sound g1 hm
          have h0 : 0 ≤ zi := by
            unfold startOk at hst
            split at hst
            · rename_i z hz
              have := of_decide_eq_true hst
              obtain ⟨hv0, _⟩ := measOk_sound g1 hm
              simp only [Env.back] at hzi
              rw [if_neg (by omega), hz] at hzi
              simp only [Option.bind_some, Tm.den, Option.some.injEq, U.int.injEq] at hzi
              omega
            · cases hst
          exact wp_loop_rounds ((zn - zi).toNat + 1) (rounds_tmpl hb hK hos hall hm (zn - zi).toNat g2 g1 hd hzi h0 hzn (by omega) hq)
        · cases hv
    · cases hv

/-! ### how such a state is found (what is found is looked at by the rule) -/

def termOf : AVal → Option Tm
  | .tm _ t => some t
  | .lit (.int _ z) => some (.int z)
  | .lit (.bool b) => some (.bool b)
  | .lit (.string s) => some (.str s)
  | .lit (.slice none 0 0) => some .nil
  | _ => none

structure FS where
  mu : List (Option Nat)
  nu : List (Option Nat)
  si : List (Option Tm)
  todo : List (Nat × Nat)

mutual
def fT (v0 : Nat) : Tm → Tm → List (Option Tm) → List (Option Tm)
  | .var n, u, si => if n < v0 then si else match si[n - v0]? with
    | some none => si.set (n - v0) (some u)
    | _ => si
  | .elem h i _ _, .elem h' i' _ _, si => fT v0 i i' (fT v0 h h' si)
  | .bin _ a b, .bin _ c d, si => fT v0 b d (fT v0 a c si)
  | .un _ a, .un _ b, si => fT v0 a b si
  | .app _ l, .app _ m, si => fTs v0 l m si
  | _, _, si => si
def fTs (v0 : Nat) : List Tm → List Tm → List (Option Tm) → List (Option Tm)
  | a :: l, b :: m, si => fTs v0 l m (fT v0 a b si)
  | _, _, si => si
end

def FS.bind (f : FS) (b c : Nat) : FS :=
  match f.mu[b]? with
  | some none => { f with mu := f.mu.set b (some c), todo := (b, c) :: f.todo }
  | _ => f
def FS.bindC (f : FS) (b c : Nat) : FS :=
  match f.nu[b]? with
  | some none => { f with nu := f.nu.set b (some c) }
  | _ => f

mutual
def fA (v0 : Nat) : AVal → AVal → FS → FS
  | .tm _ t, b, f => match termOf b with
    | some u => { f with si := fT v0 t u f.si }
    | none => f
  | .ptr b _, .ptr c _, f => f.bind b c
  | .slice b _ _ _ q, .slice c _ _ _ q', f => match q, q' with
    | some q, some q' => (f.bind b c).bindC q q'
    | _, _ => f.bind b c
  | .map b, .map c, f => f.bind b c
  | .func _ p q, .func _ p' q', f => fAs v0 q q' (fAs v0 p p' f)
  | .iface _ x, .iface _ y, f => fA v0 x y f
  | .agg l, .agg m, f => fAs v0 l m f
  | .tuple l, .tuple m, f => fAs v0 l m f
  | _, _, f => f
def fAs (v0 : Nat) : List AVal → List AVal → FS → FS
  | a :: l, b :: m, f => fAs v0 l m (fA v0 a b f)
  | _, _, f => f
end

def fEnts (v0 : Nat) : List AEnt → List AEnt → FS → FS
  | a :: l, b :: m, f => fEnts v0 l m (fA v0 a.val b.val (fA v0 a.key b.key f))
  | _, _, f => f
def fObj (v0 : Nat) : AObj → AObj → FS → FS
  | .cells l _ _ op, .cells m _ _ op', f => match op, op' with
    | some (q, _), some (q', _) => fAs v0 l m (f.bindC q q')
    | _, _ => fAs v0 l m f
  | .map es _, .map es' _, f => fEnts v0 es es' f
  | .iter (some m) _ _ _, .iter (some m') _ _ _, f => f.bind m m'
  | _, _, f => f

def fTodo (v0 : Nat) (H H' : List AObj) : Nat → FS → FS
  | 0, f => f
  | n + 1, f => match f.todo with
    | [] => f
    | (b, c) :: l => match H[b]?, H'[c]? with
      | some o, some o' => fTodo v0 H H' n (fObj v0 o o' { f with todo := l })
      | _, _ => fTodo v0 H H' n { f with todo := l }

def fStk (v0 : Nat) : List (List AVal) → List (List AVal) → FS → FS
  | a :: l, b :: m, f => fStk v0 l m (fAs v0 a b f)
  | _, _, f => f

/-- The objects, one by one. -/
def fObs (v0 : Nat) (objs : List AOb) : List AOb → Nat → List (Option Tm) → List (Option Nat) × List (Option Tm)
  | [], _, si => ([], si)
  | o :: l, i, si =>
    let h := subT v0 (si.map fun t => t.getD deadT) o.h
    if beqT h .nil then
      let r := fObs v0 objs l (i + 1) (fTs v0 o.gs [.rows []] si)
      (none :: r.1, r.2)
    else
      let j := match findOb o.kind h objs 0 with
        | some (j, _) => j
        | none => i
      match objs[j]? with
      | some p =>
        let r := fObs v0 objs l (i + 1) (fTs v0 o.gs p.gs (fT v0 o.h p.h si))
        (some j :: r.1, r.2)
      | none =>
        let r := fObs v0 objs l (i + 1) si
        (none :: r.1, r.2)

def allSome {α : Type} : List (Option α) → Option (List α)
  | [] => some []
  | some x :: l => (allSome l).map (x :: ·)
  | none :: _ => none

def findM : Finder := fun T R S =>
  let f0 : FS := ⟨T.S.heap.map fun _ => none, T.S.caps.map fun _ => none, (List.range (T.S.x.nv - T.v0)).map fun _ => none, []⟩
  let f1 := fTodo T.v0 T.S.heap S.heap 100000 (fStk T.v0 T.S.stk S.stk (fAs T.v0 T.R R f0))
  let r := fObs T.v0 S.x.objs T.S.x.objs 0 f1.si
  match allSome f1.mu, allSome f1.nu with
  | some mu, some nu => some ⟨mu, nu, r.1, r.2.map fun t => t.getD deadT⟩
  | _, _ => none

end Go.Eng

namespace Go.Eng
open Go.RowKit

/-! ### how what holds at each round is guessed (what is guessed is looked at by the rule) -/

structure AS where
  heap : List AObj
  caps : List Nat
  nv : Nat
  tab : List (Tm × Tm × Nat)
  gb : List (Nat × Tm)
  mu : List (Option Nat)
  nu : List (Option Nat)
  todo : List (Nat × Nat)
  bad : Bool

def isLitT : Tm → Bool
  | .int _ => true
  | .bool _ => true
  | .str _ => true
  | _ => false

def AS.fresh (t u : Tm) (A : AS) : Tm × AS :=
  match A.tab.find? fun p => !isLitT t && beqT p.1 t && beqT p.2.1 u with
  | some p => (.var p.2.2, A)
  | none => (.var A.nv, { A with nv := A.nv + 1, tab := (t, u, A.nv) :: A.tab })

def auT (v0 : Nat) (t u : Tm) (A : AS) : Tm × AS :=
  if beqT t u then (t, A) else
  match t with
  | .var n => if v0 ≤ n then (match A.gb.find? fun p => p.1 == n with
      | some p => if beqT p.2 u then (t, A) else A.fresh t u
      | none => (t, { A with gb := (n, u) :: A.gb })) else A.fresh t u
  | t => A.fresh t u

def kindOf : Value → Option TK
  | .int k _ => some (.int k)
  | .bool _ => some .bool
  | .string _ => some .str
  | .slice none 0 0 => some .any
  | _ => none

def AS.rel (A : AS) (b c : Nat) : Bool × AS :=
  match A.mu[b]? with
  | some none => (true, { A with mu := A.mu.set b (some c), todo := (b, c) :: A.todo })
  | some (some d) => (decide (c = d), A)
  | none => (false, A)
def AS.relC (A : AS) (b c : Nat) (caps : List Nat) : Bool × AS :=
  match A.nu[b]? with
  | some none => (true, { A with nu := A.nu.set b (some c), caps := A.caps.set b (Nat.min (A.caps.getD b 0) (caps.getD c 0)) })
  | some (some d) => (decide (c = d), A)
  | none => (false, A)

mutual
def auA (v0 : Nat) (caps : List Nat) : AVal → AVal → AS → AVal × AS
  | .top, _, A => (.top, A)
  | .tm k t, .tm k' u, A => if k = k' then (let r := auT v0 t u A; (.tm k r.1, r.2)) else (.top, A)
  | .tm k t, .lit v, A => match termOf (.lit v), kindOf v with
    | some u, some k' => if k = k' then (let r := auT v0 t u A; (.tm k r.1, r.2)) else (.top, A)
    | _, _ => (.top, A)
  | .lit v, .lit v', A => if beqV 100 v v' then (.lit v, A) else match termOf (.lit v), termOf (.lit v'), kindOf v, kindOf v' with
    | some t, some u, some k, some k' => if k = k' then (let r := A.fresh t u; (.tm k r.1, r.2)) else (.top, A)
    | _, _, _, _ => (.top, A)
  | .lit v, .tm k' u, A => match termOf (.lit v), kindOf v with
    | some t, some k => if k = k' then (let r := A.fresh t u; (.tm k r.1, r.2)) else (.top, A)
    | _, _ => (.top, A)
  | .ptr b o, .ptr c p, A => if o = p then (let r := A.rel b c; (if r.1 then .ptr b o else .top, r.2)) else (.top, A)
  | .slice b o l m q, .slice c p l' m' q', A => if o = p ∧ l = l' ∧ m = m' then (match q, q' with
      | none, none => (let r := A.rel b c; (if r.1 then .slice b o l m none else .top, r.2))
      | some q, some q' => (let r := A.rel b c; let s := r.2.relC q q' caps; (if r.1 && s.1 then .slice b o l m (some q) else .top, s.2))
      | _, _ => (.top, A)) else (.top, A)
  | .map b, .map c, A => (let r := A.rel b c; (if r.1 then .map b else .top, r.2))
  | .func f p q, .func g p' q', A => if f = g ∧ p.length = p'.length ∧ q.length = q'.length then (let r := auAs v0 caps p p' A; let s := auAs v0 caps q q' r.2; (.func f r.1 s.1, s.2)) else (.top, A)
  | .iface t x, .iface u y, A => if t = u then (let r := auA v0 caps x y A; (.iface t r.1, r.2)) else (.top, A)
  | .agg l, .agg m, A => if l.length = m.length then (let r := auAs v0 caps l m A; (.agg r.1, r.2)) else (.top, A)
  | .tuple l, .tuple m, A => if l.length = m.length then (let r := auAs v0 caps l m A; (.tuple r.1, r.2)) else (.top, A)
  | _, _, A => (.top, A)
def auAs (v0 : Nat) (caps : List Nat) : List AVal → List AVal → AS → List AVal × AS
  | a :: l, b :: m, A => let r := auA v0 caps a b A; let s := auAs v0 caps l m r.2; (r.1 :: s.1, s.2)
  | _, _, A => ([], A)
end

def auEs (v0 : Nat) (caps : List Nat) : List AEnt → List AEnt → AS → List AEnt × AS
  | a :: l, b :: m, A => let r := auA v0 caps a.key b.key A; let q := auA v0 caps a.val b.val r.2; let s := auEs v0 caps l m q.2; (⟨r.1, q.1, a.born⟩ :: s.1, s.2)
  | _, _, A => ([], A)

def auO (v0 : Nat) (caps : List Nat) : AObj → AObj → AS → AObj × AS
  | .cells l e fz op, .cells l' e' fz' op', A => if l.length = l'.length ∧ e = e' ∧ fz = fz' then (match op, op' with
      | none, none => (let r := auAs v0 caps l l' A; (.cells r.1 e fz none, r.2))
      | some (q, s), some (q', s') => (let c := A.relC q q' caps; let r := auAs v0 caps l l' c.2; (.cells r.1 e fz (some (q, s)), { r.2 with bad := r.2.bad || !c.1 || decide (s ≠ s') }))
      | _, _ => (.cells l e fz op, { A with bad := true })) else (.cells l e fz op, { A with bad := true })
  | .map es c, .map es' c', A => if es.length = es'.length ∧ c = c' then (let r := auEs v0 caps es es' A; (.map r.1 c, r.2)) else (.map es c, { A with bad := true })
  | o, _, A => (o, { A with bad := true })

def auTodo (v0 : Nat) (H' : List AObj) (caps : List Nat) : Nat → AS → AS
  | 0, A => { A with bad := true }
  | n + 1, A => match A.todo with
    | [] => A
    | (b, c) :: l => match A.heap[b]?, H'[c]? with
      | some o, some o' =>
        let r := auO v0 caps o o' { A with todo := l }
        auTodo v0 H' caps n { r.2 with heap := r.2.heap.set b r.1 }
      | _, _ => { A with bad := true }

def auTs (v0 : Nat) : List Tm → List Tm → AS → List Tm × AS
  | a :: l, b :: m, A => let r := auT v0 a b A; let s := auTs v0 l m r.2; (r.1 :: s.1, s.2)
  | _, _, A => ([], A)

def auStk (v0 : Nat) (caps : List Nat) : List (List AVal) → List (List AVal) → AS → List (List AVal) × AS
  | a :: l, b :: m, A => let r := auAs v0 caps a b A; let s := auStk v0 caps l m r.2; (r.1 :: s.1, s.2)
  | _, _, A => ([], A)

/-- The objects: each, and what it has become. -/
def auObs (v0 : Nat) (objs' : List AOb) : List AOb → Nat → AS → List AOb × AS
  | [], _, A => ([], A)
  | o :: l, i, A =>
    let u : Tm := match o.h with
      | .var n => if v0 ≤ n then (match A.gb.find? fun p => p.1 == n with
          | some p => p.2
          | none => o.h) else o.h
      | t => t
    let pr : Option (Tm × Tm × Nat) := A.tab.find? fun p => beqT p.1 o.h
    let h' : Tm := match pr with
      | some p => .var p.2.2
      | none => o.h
    let w : Tm := match pr with
      | some p => p.2.1
      | none => u
    match objs'.find? fun p => decide (p.kind = o.kind) && beqT p.h w with
    | some p =>
      let r := auTs v0 o.gs p.gs A
      let s := auObs v0 objs' l (i + 1) r.2
      (⟨o.kind, h', r.1⟩ :: s.1, s.2)
    | none =>
      let s := auObs v0 objs' l (i + 1) A
      (o :: s.1, s.2)

/-- Lists that were nil, and are no more. -/
def auNil (objs' : List AOb) : List (Tm × Tm × Nat) → AS → List AOb × AS
  | [], A => ([], A)
  | (.nil, u, n) :: l, A => match objs'.find? fun p => beqT p.h u with
    | some p =>
      let r := A.fresh (.app 999999 [u]) (p.gs.getD 0 deadT)
      let s := auNil objs' l r.2
      (⟨p.kind, .var n, [r.1]⟩ :: s.1, s.2)
    | none => auNil objs' l A
  | _ :: l, A => auNil objs' l A

def auAll (T : Tmpl) (R' : List AVal) (S' : St) : Option Tmpl :=
  let A0 : AS := ⟨T.S.heap, T.S.caps, T.S.x.nv, [], [], T.S.heap.map fun _ => none, T.S.caps.map fun _ => none, [], false⟩
  let r := auAs T.v0 S'.caps T.R R' A0
  let k := auStk T.v0 S'.caps T.S.stk S'.stk r.2
  let A1 := auTodo T.v0 S'.heap S'.caps 100000 k.2
  let o := auObs T.v0 S'.x.objs T.S.x.objs 0 A1
  let z := auNil S'.x.objs o.2.tab o.2
  if z.2.bad then none else
  some ⟨r.1, { heap := z.2.heap, caps := z.2.caps, stk := k.1, x := { objs := o.1 ++ z.1, conds := T.S.x.conds, nv := z.2.nv } }, T.v0⟩

def normals (o : Outs) : List (List AVal × St) := onOf o

/-- All conditions that still hold. -/
def keepC (T : Tmpl) (os : List (List AVal × St)) : Conds :=
  T.S.x.conds.filter fun p => os.all fun q => match findM T q.1 q.2 with
    | some M => fitC T.v0 M (intsOf q.1) (gsOf q.2.x.objs) q.2.x.conds p
    | none => false

/-- The unknown that goes up. -/
def findMeas (T : Tmpl) (q : List AVal × St) : Option Meas :=
  match findM T q.1 q.2 with
  | none => none
  | some M =>
    q.2.x.conds.findSome? fun p => match p with
      | (.bin .lt (.var v) tn, true) =>
        if T.v0 ≤ v ∧ closedT T.v0 tn = true then
          (match M.si[v - T.v0]? with
          | some (.bin (.ar .add k) (.var v') (.int 1)) => if v = v' then some ⟨v, k, tn⟩ else none
          | _ => none)
        else none
      | _ => none

def lows (T0 T : Tmpl) : Conds := (List.range (T.S.x.nv - T.v0)).filterMap fun j => match (match findM T T0.R T0.S with
    | some M => M.si[j]?
    | none => none) with
  | some (.int z) => if 0 ≤ z then some (.bin .lt (.var (T.v0 + j)) (.int 0), false) else none
  | _ => none

/-- The bounds of the numbers that go up, as the ways out tell them. -/
def boundsOf (outs : Outs) : List Int := (outs.filterMap fun p => match p.1 with
  | .exit _ => match p.2.2.x.conds with
    | (.bin .lt _ t, false) :: cs => highB cs t
    | _ => none
  | _ => none).eraseDups

/-- What may hold of unknowns at each round: how far a number goes; how long a list is by then. -/
def growC (T0 T : Tmpl) (hs : List Int) : Conds :=
  match findM T T0.R T0.S with
  | none => []
  | some M =>
    let si : List Tm := M.si
    let idx : List Nat := (List.range (T.S.x.nv - T.v0)).filterMap fun (j : Nat) => match si[j]? with
      | some (Tm.int z) => if 0 ≤ z then some (T.v0 + j) else none
      | _ => none
    let gv : List (Nat × Nat) := T.S.x.objs.flatMap fun o => o.gs.filterMap fun g => match g with
      | .var n => if T.v0 ≤ n then (si[n - T.v0]?).bind fun g0 => (lenHi T0.S.x.conds g0).map fun c => (n, c.toNat) else none
      | _ => none
    idx.flatMap fun i => (hs.map fun h => (.bin .lt (.int h) (.var i), false)) ++ gv.map fun p => (.bin (.grow 8 p.2) (.var i) (.var p.1), true)

def widen (nl : Nat → Bool) (body : List AVal → St → Option Outs) (T0 : Tmpl) : Nat → Tmpl → Option (Tmpl × Meas)
  | 0, _ => none
  | n + 1, T =>
    match body T.R { T.S with x := { T.S.x with conds := lows T0 T ++ T.S.x.conds } } with
    | none => none
    | some outs =>
      let os := normals outs
      let T1 : Tmpl := { T with S := { T.S with x := { T.S.x with conds := keepC T os } } }
      if os.all (fun q => match findM T1 q.1 q.2 with
        | some M => fits nl T1 M q.1 q.2
        | none => false) then
        (if T1.S.x.conds.length = T.S.x.conds.length then
          (match os with
          | q :: _ => (findMeas T1 q).map fun m => (T1, m)
          | [] => none)
        else widen nl body T0 n T1)
      else
        match os.foldl (fun (t : Option Tmpl) q => t.bind fun t => auAll t q.1 q.2) (some T) with
        | some T2 => widen nl body T0 n { T2 with S := { T2.S with x := { T2.S.x with conds := (growC T0 T2 (boundsOf outs)).filter (fun p => !T2.S.x.conds.any fun q => beqT q.1 p.1) ++ T2.S.x.conds } } }
        | none => none

/-- Is it not known how often a loop goes round? -/
def openLoop (S : St) (outs : Outs) : Bool := outs.any fun p => match p.1 with
  | .exit _ => match p.2.2.x.conds with
    | (.bin .lt _ _, false) :: cs => allSame beqC cs S.x.conds
    | _ => false
  | _ => false

def autoLoop (nl : Nat → Bool) (body : List AVal → St → Option Outs) (R : List AVal) (S : St) : Option Outs :=
  if S.x.nv = 0 then none else
  match body R S with
  | none => none
  | some outs =>
    if openLoop S outs then
      let g := gc (.tuple R, S)
      let T0 : Tmpl := ⟨unT g.1, g.2, S.x.nv⟩
      match widen nl body T0 12 T0 with
      | some (T, m) => loopEval nl findM body T m R S
      | none => none
    else none

theorem autoLoop_sound {P : Program} {K : Fix} {X : List (List Value)} {c : Code} {body : List AVal → St → Option Outs} (hb : ∀ E, CodeOk P (K.tie E) X c body) : CodeOk P K X (.loop c) (autoLoop K.ob.nils body) := by
  intro R S E w ac outs Q hok hR hd hv hq
  unfold autoLoop at hv
  split at hv
  · cases hv
  · split at hv
    · cases hv
    · split at hv
      · simp only at hv
        split at hv
        · exact loopEval_sound hb hok hR hd hv hq
        · cases hv
      · cases hv

end Go.Eng

namespace Go.Eng
open Go.RowKit

variable {P : Program} {K : Fix} {E F : Env} {S S' : St} {X : List (List Value)} {w w' : World} {a b v : AVal} {x y : Value} {t s : TypeId} {l r : List AVal} {xs : List Value} {i j n off f : Nat}

def evalCode (P : Program) (K : Glb) (ext call : CallF) (rounds : Nat) : Code → List AVal → St → Option Outs
  | .skip, R, S => some [(.normal, R, S)]
  | .label _, R, S => some [(.normal, R, S)]
  | .region _ ops draw, R, S =>
    (if draw then adraw P K ext call ops.toList R S else aseq P K ext call ops ops.toList R S).map fun l => l.map fun p => (.normal, p)
  | .seq a b, R, S => (evalCode P K ext call rounds a R S).bind (bindAll fun p => match p.1 with
    | .normal => evalCode P K ext call rounds b p.2.1 p.2.2
    | _ => some [p])
  | .cond c a b, R, S =>
    match opR R c with
    | some (.lit (.bool true)) => evalCode P K ext call rounds a R S
    | some (.lit (.bool false)) => evalCode P K ext call rounds b R S
    | some (.tm .bool t) => match known S.x.conds t with
      | some true => evalCode P K ext call rounds a R S
      | some false => evalCode P K ext call rounds b R S
      | none => match evalCode P K ext call rounds a R (S.withC t true), evalCode P K ext call rounds b R (S.withC t false) with
        | some l, some m => some (l ++ m)
        | _, _ => none
    | _ => none
  | .block id c, R, S => (evalCode P K ext call rounds c R S).map fun l => l.map fun p => match p.1 with
    | .exit id' => if id' = id then (.normal, p.2) else p
    | _ => p
  | .loop c, R, S => match autoLoop K.nils (evalCode P K ext call rounds c) R S with
    | some outs => some outs
    | none => iterL (evalCode P K ext call rounds c) rounds [(R, S)]
  | .exit id, R, S => some [(.exit id, R, S)]
  | .scope c, R, S => evalCode P K ext call rounds c R S
  | .ret, R, S => some [(.ret, R, S)]
  | _, _, _ => none

theorem evList_none (m : Nat) : VRs E (evList (List.replicate m none)) (List.replicate m undef) := by
  induction m with
  | zero => exact VRs.nil
  | succ m ih => simp only [List.replicate_succ, evList, List.map_cons]; exact VRs.cons (by simp only [Option.getD_none, uv, VR]) ih

theorem adraw_sound {ext call : CallF} (he : ExtOk P K ext) (hcl : CallOk P K call) (hm : P.follows .mixedOrders = true) {id : Nat} {ops : Array Oper} {R : List AVal} {ac : Act} {outs : List (List AVal × St)} {Q : Exit → Act → World → Prop}
    (h : Ok K E S X w) (hR : VRs E R ac.tmps.toList) (hv : adraw P K ext call ops.toList R S = some outs)
    (hq : ∀ R' S' E' w' ac', (R', S') ∈ outs → VRs E' R' ac'.tmps.toList → Ok K E' S' X w' → ac'.defers = ac.defers → Q .normal ac' w') : (Code.region id ops true).wp P Q ac w := by
  unfold adraw at hv
  simp only at hv
  split at hv
  · rename_i hc
    have hD := drawChk_sound hc
    refine wp_region_any hm ?_
    have hdr := h.drawn (w.drawn + 1)
    obtain ⟨XE, s1, s2, s3⟩ := saturate_sound (P := P) (ops := ops.toList) (Bs := predsOf ops.toList) hdr hR (List.range ops.toList.length) (evList_none (E := E) ops.toList.length)
    have hnl : ∀ i, (Array.replicate ops.size false).getD i false = false := by
      intro i
      rcases Nat.lt_or_ge i ops.size with g | g <;> simp [Array.getD_eq_getD_getElem?, g]
    refine drawAll_sound he hcl hD _ ops.size (2 * ops.toList.length + 2) (Nat.le_refl _) (ex := []) (R := R) (S := S) (XR := ac.tmps.toList) (XE := XE) (by simp) ?_ hdr hv (List.mem_singleton.2 rfl) hq
    refine ⟨by simp, by rw [saturate, s2]; simp, fun i hi => ?_, fun i hi => (by cases hi), fun j hj => ?_, hR, s1, fun t => ?_⟩
    · rw [hnl] at hi; cases hi
    · rw [hnl] at hj; cases hj
    · rw [Array.getElem?_toList]
      have : (curX ops.toList (Array.replicate ops.size false) XE t) = (fun r => r) := by
        funext r
        unfold curX
        split
        · rw [hnl]; simp
        · rfl
      rw [this]; simp
  · simp at hv

theorem evalCode_sound {ext call : CallF} (hm : P.follows .mixedOrders = true) (rounds : Nat) : ∀ (c : Code) (K : Fix) (X : List (List Value)) (_he : ∀ E, ExtOk P (K.tie E) ext) (_hcl : ∀ E, CallOk P (K.tie E) call) (_he0 : ExtOk P K ext) (_hcl0 : CallOk P K call), CodeOk P K X c (evalCode P K ext call rounds c)
  | .skip => by
    intro K X he hcl he0 hcl0 R S E w ac outs Q h hR hd hv hq
    simp only [evalCode, Option.some.injEq] at hv; subst hv
    exact wp_skip (hq .normal _ _ _ _ _ (List.mem_singleton.2 rfl) hR h hd)
  | .label l => by
    intro K X he hcl he0 hcl0 R S E w ac outs Q h hR hd hv hq
    simp only [evalCode, Option.some.injEq] at hv; subst hv
    exact wp_label (hq .normal _ _ _ _ _ (List.mem_singleton.2 rfl) hR h hd)
  | .region id ops draw => by
    intro K X he hcl he0 hcl0 R S E w ac outs Q h hR hd hv hq
    simp only [evalCode, Option.map_eq_some_iff] at hv
    obtain ⟨os, hos, rfl⟩ := hv
    have hq' : ∀ (R' : List AVal) (S' : St) (E' : Env) (w' : World) (ac' : Act), (R', S') ∈ os → VRs E' R' ac'.tmps.toList → Ok K E' S' X w' → ac'.defers = ac.defers → Q .normal ac' w' := by
      intro R' S' E' w' ac' hmem hR' h' hd'
      exact hq .normal R' S' E' w' ac' (List.mem_map.2 ⟨(R', S'), hmem, rfl⟩) hR' h' (hd'.trans hd)
    cases draw with
    | false =>
      simp only [Bool.false_eq_true, if_false] at hos
      exact wp_region_list (aseq_sound he0 hcl0 h hR hos hq')
    | true =>
      simp only [if_true] at hos
      exact adraw_sound he0 hcl0 hm h hR hos hq'
  | .seq c d => by
    intro K X he hcl he0 hcl0 R S E w ac outs Q h hR hd hv hq
    simp only [evalCode, Option.bind_eq_some_iff] at hv
    obtain ⟨mid, hmid, hv⟩ := hv
    refine wp_seq (evalCode_sound hm rounds c K X he hcl he0 hcl0 h hR hd hmid ?_)
    intro e R' S' E' w' ac' hmem hR' h' hd'
    obtain ⟨ys, hy, hsub⟩ := bindAll_mem hv hmem
    cases e with
    | normal =>
      simp only at hy
      exact evalCode_sound hm rounds d K X he hcl he0 hcl0 h' hR' hd' hy fun e R2 S2 E2 w2 ac2 hm2 => hq e R2 S2 E2 w2 ac2 (hsub _ hm2)
    | exit id =>
      simp only [Option.some.injEq] at hy; subst hy
      exact hq (.exit id) R' S' E' w' ac' (hsub _ (List.mem_singleton.2 rfl)) hR' h' hd'
    | ret =>
      simp only [Option.some.injEq] at hy; subst hy
      exact hq .ret R' S' E' w' ac' (hsub _ (List.mem_singleton.2 rfl)) hR' h' hd'
  | .cond c d e => by
    intro K X he hcl he0 hcl0 R S E w ac outs Q h hR hd hv hq
    simp only [evalCode] at hv
    split at hv
    · rename_i hc
      have := opR_sound hR _ _ hc
      simp only [VR] at this
      exact wp_cond_true this (evalCode_sound hm rounds d K X he hcl he0 hcl0 h hR hd hv hq)
    · rename_i hc
      have := opR_sound hR _ _ hc
      simp only [VR] at this
      exact wp_cond_false this (evalCode_sound hm rounds e K X he hcl he0 hcl0 h hR hd hv hq)
    · rename_i u hc
      have := opR_sound hR _ _ hc
      simp only [VR] at this
      obtain ⟨r, hr, hx⟩ := this
      split at hv
      · rename_i hk
        have := known_sound h.x.conds hk hr
        subst this
        exact wp_cond_true hx (evalCode_sound hm rounds d K X he hcl he0 hcl0 h hR hd hv hq)
      · rename_i hk
        have := known_sound h.x.conds hk hr
        subst this
        exact wp_cond_false hx (evalCode_sound hm rounds e K X he hcl he0 hcl0 h hR hd hv hq)
      · split at hv
        · rename_i la lb ha hb
          obtain rfl := Option.some.inj hv
          cases r with
          | true => exact wp_cond_true hx (evalCode_sound hm rounds d K X he hcl he0 hcl0 (h.withC hr) hR hd ha fun e R' S' E' w' ac' hm' => hq e R' S' E' w' ac' (List.mem_append_left _ hm'))
          | false => exact wp_cond_false hx (evalCode_sound hm rounds e K X he hcl he0 hcl0 (h.withC hr) hR hd hb fun e R' S' E' w' ac' hm' => hq e R' S' E' w' ac' (List.mem_append_right _ hm'))
        · cases hv
    · simp at hv
  | .block id c => by
    intro K X he hcl he0 hcl0 R S E w ac outs Q h hR hd hv hq
    simp only [evalCode, Option.map_eq_some_iff] at hv
    obtain ⟨os, hos, rfl⟩ := hv
    refine wp_block (evalCode_sound hm rounds c K X he hcl he0 hcl0 h hR hd hos ?_)
    intro e R' S' E' w' ac' hmem hR' h' hd'
    have hmm := (List.mem_map (f := fun p : AExit × List AVal × St => match p.1 with
      | .exit id' => if id' = id then (AExit.normal, p.2) else p
      | _ => p)).2 ⟨(e, R', S'), hmem, rfl⟩
    cases e with
    | normal => exact hq .normal R' S' E' w' ac' hmm hR' h' hd'
    | exit id' =>
      simp only at hmm
      simp only [AExit.conc, Exit.inBlock]
      split
      · rename_i e; rw [if_pos e] at hmm; exact hq .normal R' S' E' w' ac' hmm hR' h' hd'
      · rename_i e; rw [if_neg e] at hmm; exact hq (.exit id') R' S' E' w' ac' hmm hR' h' hd'
    | ret => exact hq .ret R' S' E' w' ac' hmm hR' h' hd'
  | .loop c => by
    intro K X he hcl he0 hcl0 R S E w ac outs Q h hR hd hv hq
    simp only [evalCode] at hv
    split at hv
    · rename_i os hos
      obtain rfl := Option.some.inj hv
      exact autoLoop_sound (fun F => evalCode_sound hm rounds c (K.tie F) X he hcl (he F) (hcl F)) h hR hd hos hq
    · exact wp_loop_rounds rounds (iterL_sound (evalCode_sound hm rounds c K X he hcl he0 hcl0) (List.mem_singleton.2 rfl) h hR hd hv hq)
  | .exit id => by
    intro K X he hcl he0 hcl0 R S E w ac outs Q h hR hd hv hq
    simp only [evalCode, Option.some.injEq] at hv; subst hv
    exact wp_exit (hq (.exit id) _ _ _ _ _ (List.mem_singleton.2 rfl) hR h hd)
  | .scope c => by
    intro K X he hcl he0 hcl0 R S E w ac outs Q h hR hd hv hq
    simp only [evalCode] at hv
    refine wp_scope_straight (evalCode_sound hm rounds c K X he hcl he0 hcl0 h hR hd hv ?_)
    intro e R' S' E' w' ac' hmem hR' h' hd'
    have := hq e R' S' E' w' ac' hmem hR' h' hd'
    cases e <;> exact this
  | .ret => by
    intro K X he hcl he0 hcl0 R S E w ac outs Q h hR hd hv hq
    simp only [evalCode, Option.some.injEq] at hv; subst hv
    exact wp_ret (hq .ret _ _ _ _ _ (List.mem_singleton.2 rfl) hR h hd)
  | .rangeFunc .. => by
    intro K X he hcl he0 hcl0 R S E w ac outs Q h hR hd hv hq
    simp [evalCode] at hv
  | .goto .. => by
    intro K X he hcl he0 hcl0 R S E w ac outs Q h hR hd hv hq
    simp [evalCode] at hv
  | .refuse .. => by
    intro K X he hcl he0 hcl0 R S E w ac outs Q h hR hd hv hq
    simp [evalCode] at hv

/-! ### a call -/

def aresults (P : Program) (K : Glb) (R : List AVal) (S : St) : List ResultVar → Option (List AVal)
  | [] => some []
  | .tmp t :: l => match R[t]?, aresults P K R S l with
    | some v, some vs => some (v :: vs)
    | _, _ => none
  | .cell t ty :: l => match (R[t]?).bind (aload P K S ty), aresults P K R S l with
    | some v, some vs => some (v :: vs)
    | _, _ => none

theorem aresults_sound {R : List AVal} {tmps : Array Value} (h : Ok K E S X w) (hR : VRs E R tmps.toList) : ∀ {rs : List ResultVar} {vs : List AVal}, aresults P K R S rs = some vs →
    ∃ ys, VRs E vs ys ∧ (rs.mapM (fun
      | .tmp t => pure (tmps.getD t undef)
      | .cell a t => do loadVar t (← asAddr (tmps.getD a undef)) : ResultVar → Sem Value)).run P w = .ok ys w
  | [], vs, hv => by simp only [aresults, Option.some.injEq] at hv; subst hv; exact ⟨[], VRs.nil, by simp⟩
  | .tmp t :: l, vs, hv => by
    simp only [aresults] at hv
    split at hv
    · rename_i v us h1 h2
      simp only [Option.some.injEq] at hv; subst hv
      obtain ⟨ys, g1, g2⟩ := aresults_sound h hR h2
      obtain ⟨x, k1, k2⟩ := hR.get h1
      have : tmps.getD t undef = x := by
        rw [Array.getElem?_toList] at k1
        simp [Array.getD_eq_getD_getElem?, k1]
      exact ⟨x :: ys, VRs.cons k2 g1, by simp only [List.mapM_cons, Sem.run_bind, Sem.run_pure, Result.andThen_ok, this, g2]⟩
    · simp at hv
  | .cell t ty :: l, vs, hv => by
    simp only [aresults] at hv
    split at hv
    · rename_i v us h1 h2
      simp only [Option.some.injEq] at hv; subst hv
      obtain ⟨ys, g1, g2⟩ := aresults_sound h hR h2
      simp only [Option.bind_eq_some_iff] at h1
      obtain ⟨p, hp, hl⟩ := h1
      obtain ⟨x, k1, k2⟩ := hR.get hp
      have : tmps.getD t undef = x := by
        rw [Array.getElem?_toList] at k1
        simp [Array.getD_eq_getD_getElem?, k1]
      obtain ⟨y, j1, j2⟩ := aload_sound (P := P) h k2 hl
      refine ⟨y :: ys, VRs.cons j2 g1, ?_⟩
      have hld : (do loadVar ty (← asAddr x) : Sem Value).run P w = .ok y w := by
        have hx : ∃ ad, x = .pointer (some ad) := by
          unfold aload at hl
          simp only [Option.bind_eq_bind, Option.bind_eq_some_iff] at hl
          obtain ⟨d, _, hl⟩ := hl
          split at hl
          · simp only [VR] at k2; obtain ⟨c, _, rfl⟩ := k2; exact ⟨_, rfl⟩
          · simp only [VR] at k2; exact ⟨_, k2⟩
          · simp at hl
        obtain ⟨ad, rfl⟩ := hx
        simpa [Instr.loadAt, Instr.sureAddr, asAddr] using j1
      simp only [List.mapM_cons, this]
      rw [Sem.run_bind, hld]
      simp only [Result.andThen_ok, Sem.run_bind, g2, Sem.run_pure]
    · simp at hv

def packR : List AVal → AVal
  | [v] => v
  | vs => .tuple vs

theorem packR_sound {vs : List AVal} {ys : List Value} (h : VRs E vs ys) : VR E (packR vs) (if h : ys.toArray.size = 1 then ys.toArray[0] else .tuple ys.toArray) := by
  cases vs with
  | nil => simp only [VRs] at h; subst h; simp only [packR, VR]; exact ⟨[], VRs.nil, rfl⟩
  | cons a l =>
    cases l with
    | nil => obtain ⟨x, rfl, hx⟩ := h.one; simpa [packR] using hx
    | cons b l =>
      have hl := h.length
      simp only [packR, VR]
      refine ⟨ys, h, ?_⟩
      simp only [List.length_cons] at hl
      rw [dif_neg (by simp; omega)]

def evalCall (P : Program) (K : Glb) (ext oracle : CallF) (rounds : Nat) : Nat → CallF
  | 0 => fun _ _ _ => none
  | d + 1 => fun f args S =>
    match oracle f args S with
    | some outs => some outs
    | none =>
      match P.funcs[f]? with
      | none => none
      | some fn =>
        match fn.body with
        | none => none
        | some c =>
          ((evalCode P K ext (evalCall P K ext oracle rounds d) rounds c (args ++ List.replicate (fn.ntmps - args.length) uv) S).bind (bindAll fun p =>
            match p.1 with
            | .exit _ => none
            | _ => (aresults P K p.2.1 p.2.2 fn.results.toList).map fun vs => [(packR vs, p.2.2)])).map merge

theorem VRs.replicate (m : Nat) : VRs E (List.replicate m uv) (List.replicate m undef) := by
  induction m with
  | zero => exact VRs.nil
  | succ m ih => simp only [List.replicate_succ]; exact VRs.cons (by simp only [uv, VR]) ih

theorem evalCall_sound' {ext oracle : CallF} (hm : P.follows .mixedOrders = true) (rounds : Nat) : ∀ (d : Nat) (K : Fix) (_he : ∀ E, ExtOk P (K.tie E) ext) (_ho : ∀ E, CallOk P (K.tie E) oracle) (_he0 : ExtOk P K ext) (_ho0 : CallOk P K oracle), CallOk P K (evalCall P K ext oracle rounds d)
  | 0 => by intro K he ho he0 ho0 f args S outs hv; simp [evalCall] at hv
  | d + 1 => by
    intro K he ho he0 ho0 f args S outs hv E X w xs h hxs
    simp only [evalCall] at hv
    split at hv
    · rename_i os hos
      simp only [Option.some.injEq] at hv; subst hv
      exact ho0 f args S os hos E X w xs h hxs
    · split at hv
      · simp at hv
      · rename_i fn hf
        split at hv
        · simp at hv
        · rename_i c hb
          simp only [Option.map_eq_some_iff, Option.bind_eq_some_iff] at hv
          obtain ⟨os, ⟨mid, hmid, hos⟩, rfl⟩ := hv
          refine calls_of_wp hf hb ?_
          have hlen := hxs.length
          refine evalCode_sound hm rounds c K X he (fun F => evalCall_sound' hm rounds d (K.tie F) he ho (he F) (ho F)) he0 (evalCall_sound' hm rounds d K he ho he0 ho0) h (R := args ++ List.replicate (fn.ntmps - args.length) uv) ?_ rfl hmid ?_
          · simp only [Array.toList_append, Array.toList_replicate]
            rw [hlen]
            simpa using hxs.append (VRs.replicate (fn.ntmps - xs.length))
          · intro e R' S' E' w' ac' hmem hR' h' hd'
            obtain ⟨ys, hy, hsub⟩ := bindAll_mem hos hmem
            have fin : ∀ vs, aresults P K R' S' fn.results.toList = some vs → (packR vs, S') ∈ os →
                ac'.defers = [] ∧ ∃ u, (results fn ac'.tmps).run P w' = .ok u w' ∧ ∃ v2 S2 y2 E2, (v2, S2) ∈ merge os ∧ Ending.returned u = .returned y2 ∧ VR E2 v2 y2 ∧ Ok K E2 S2 X w' := by
              intro vs hvs hin
              obtain ⟨zs, g1, g2⟩ := aresults_sound (P := P) h' hR' hvs
              have hp := packR_sound g1
              have hres : (results fn ac'.tmps).run P w' = .ok (if h : zs.toArray.size = 1 then zs.toArray[0] else .tuple zs.toArray) w' := by
                have g3 := mapM_eq g2
                simp only [Array.toArray_toList] at g3
                unfold results
                rw [Sem.run_bind]
                exact congrArg (fun r => Result.andThen r _) g3
              obtain ⟨v2, S2, E2, m1, m2, m3⟩ := merge_sound h' hp hin
              exact ⟨hd', _, hres, v2, S2, _, E2, m1, rfl, m2, m3⟩
            cases e with
            | normal =>
              simp only [Option.map_eq_some_iff] at hy
              obtain ⟨vs, hvs, rfl⟩ := hy
              exact fin vs hvs (hsub _ (List.mem_singleton.2 rfl))
            | exit id => simp at hy
            | ret =>
              simp only [Option.map_eq_some_iff] at hy
              obtain ⟨vs, hvs, rfl⟩ := hy
              exact fin vs hvs (hsub _ (List.mem_singleton.2 rfl))

theorem evalCall_sound {ext oracle : CallF} (he : ∀ K' : Fix, K'.toG = K.toG → K'.ob = K.ob → ExtOk P K' ext) (ho : ∀ K' : Fix, K'.toG = K.toG → K'.ob = K.ob → CallOk P K' oracle) (hm : P.follows .mixedOrders = true) (rounds d : Nat) : CallOk P K (evalCall P K ext oracle rounds d) :=
  evalCall_sound' hm rounds d K (fun _ => he _ rfl rfl) (fun _ => ho _ rfl rfl) (he _ rfl rfl) (ho _ rfl rfl)

end Go.Eng
