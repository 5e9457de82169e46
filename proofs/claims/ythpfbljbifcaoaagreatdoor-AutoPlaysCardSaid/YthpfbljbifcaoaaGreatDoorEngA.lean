/- A machine that runs closed code on values with names in the place of blocks, part 1 of 4: values, memory, lists, maps: each step is shown to be the model's. Conditions: none. -/
import Derived.Laws.Sem
import Derived.Calls
import Derived.Below
import Derived.LoopN
import Derived.Laws.BytesArg
namespace Go.Eng
open Go.RowKit

/-- A value with names of own blocks in the place of block numbers. -/
inductive AVal where
  | lit (v : Value)
  | ptr (b off : Nat)
  | slice (b off len m : Nat) (c : Option Nat)
  | map (b : Nat)
  | func (fn : Fn) (first captured : List AVal)
  | iface (t : TypeId) (v : AVal)
  | agg (l : List AVal)
  | tuple (l : List AVal)
  deriving Inhabited

/-- Which block bears a name; what a capacity is. -/
structure Env where
  rho : Nat → Option Nat
  kap : Nat → Option Nat

def CapR (E : Env) (m : Nat) : Option Nat → Nat → Prop
  | none, k => k = m
  | some q, k => ∃ n, E.kap q = some n ∧ m ≤ n ∧ k = n - m

mutual
def VR (E : Env) : AVal → Value → Prop
  | .lit v, x => x = v
  | .ptr b off, x => ∃ c, E.rho b = some c ∧ x = .pointer (some ⟨c, off, none⟩)
  | .slice b off len m q, x => ∃ c k, E.rho b = some c ∧ CapR E m q k ∧ x = .slice (some ⟨c, off, none⟩) len k
  | .map b, x => ∃ c, E.rho b = some c ∧ x = .map (some c)
  | .func fn f g, x => ∃ fs gs, VRs E f fs ∧ VRs E g gs ∧ x = .func fn fs.toArray gs.toArray
  | .iface t v, x => ∃ y, VR E v y ∧ x = .iface t y
  | .agg l, x => ∃ xs, VRs E l xs ∧ x = .agg xs.toArray
  | .tuple l, x => ∃ xs, VRs E l xs ∧ x = .tuple xs.toArray
def VRs (E : Env) : List AVal → List Value → Prop
  | [], xs => xs = []
  | a :: l, xs => ∃ x r, VR E a x ∧ VRs E l r ∧ xs = x :: r
end

structure Env.Le (E F : Env) : Prop where
  rho : ∀ b c, E.rho b = some c → F.rho b = some c
  kap : ∀ b c, E.kap b = some c → F.kap b = some c

theorem Env.Le.refl (E : Env) : E.Le E := ⟨fun _ _ h => h, fun _ _ h => h⟩
theorem Env.Le.trans {E F G : Env} (h : E.Le F) (k : F.Le G) : E.Le G := ⟨fun b c x => k.rho b c (h.rho b c x), fun b c x => k.kap b c (h.kap b c x)⟩

theorem CapR.mono {E F : Env} (h : E.Le F) {m : Nat} {q : Option Nat} {k : Nat} (r : CapR E m q k) : CapR F m q k := by
  cases q with
  | none => exact r
  | some q => obtain ⟨n, h1, h2, h3⟩ := r; exact ⟨n, h.kap _ _ h1, h2, h3⟩

mutual
theorem VR.mono {E F : Env} (h : E.Le F) : ∀ (a : AVal) (x : Value), VR E a x → VR F a x
  | .lit v, x, r => by simpa only [VR] using r
  | .ptr b off, x, r => by
    simp only [VR] at r ⊢; obtain ⟨c, h1, h2⟩ := r; exact ⟨c, h.rho _ _ h1, h2⟩
  | .slice b off len m q, x, r => by
    simp only [VR] at r ⊢; obtain ⟨c, k, h1, h2, h3⟩ := r; exact ⟨c, k, h.rho _ _ h1, h2.mono h, h3⟩
  | .map b, x, r => by
    simp only [VR] at r ⊢; obtain ⟨c, h1, h2⟩ := r; exact ⟨c, h.rho _ _ h1, h2⟩
  | .func fn f g, x, r => by
    simp only [VR] at r ⊢; obtain ⟨fs, gs, h1, h2, h3⟩ := r; exact ⟨fs, gs, VRs.mono h f fs h1, VRs.mono h g gs h2, h3⟩
  | .iface t v, x, r => by
    simp only [VR] at r ⊢; obtain ⟨y, h1, h2⟩ := r; exact ⟨y, VR.mono h v y h1, h2⟩
  | .agg l, x, r => by
    simp only [VR] at r ⊢; obtain ⟨xs, h1, h2⟩ := r; exact ⟨xs, VRs.mono h l xs h1, h2⟩
  | .tuple l, x, r => by
    simp only [VR] at r ⊢; obtain ⟨xs, h1, h2⟩ := r; exact ⟨xs, VRs.mono h l xs h1, h2⟩
theorem VRs.mono {E F : Env} (h : E.Le F) : ∀ (l : List AVal) (xs : List Value), VRs E l xs → VRs F l xs
  | [], xs, r => by simpa only [VRs] using r
  | a :: l, xs, r => by
    simp only [VRs] at r ⊢; obtain ⟨x, s, h1, h2, h3⟩ := r; exact ⟨x, s, VR.mono h a x h1, VRs.mono h l s h2, h3⟩
end

theorem VRs.nil {E : Env} : VRs E [] [] := by simp only [VRs]
theorem VRs.cons {E : Env} {a x l xs} (h : VR E a x) (k : VRs E l xs) : VRs E (a :: l) (x :: xs) := by
  simp only [VRs]; exact ⟨x, xs, h, k, rfl⟩
theorem VRs.length {E : Env} : ∀ {l : List AVal} {xs : List Value}, VRs E l xs → l.length = xs.length
  | [], xs, r => by simp only [VRs] at r; simp [r]
  | a :: l, xs, r => by
    simp only [VRs] at r; obtain ⟨x, s, _, h2, h3⟩ := r; simp [h3, VRs.length h2]
theorem VRs.get {E : Env} : ∀ {l : List AVal} {xs : List Value} {i : Nat} {a : AVal}, VRs E l xs → l[i]? = some a → ∃ x, xs[i]? = some x ∧ VR E a x
  | [], xs, i, a, _, h => by simp at h
  | b :: l, xs, i, a, r, h => by
    simp only [VRs] at r; obtain ⟨x, s, h1, h2, h3⟩ := r
    subst h3
    cases i with
    | zero => simp at h; subst h; exact ⟨x, by simp, h1⟩
    | succ i => simp at h; simpa using VRs.get h2 h
theorem VRs.append {E : Env} : ∀ {l : List AVal} {xs : List Value} {m : List AVal} {ys : List Value}, VRs E l xs → VRs E m ys → VRs E (l ++ m) (xs ++ ys)
  | [], xs, m, ys, r, k => by simp only [VRs] at r; subst r; simpa using k
  | a :: l, xs, m, ys, r, k => by
    simp only [VRs] at r; obtain ⟨x, s, h1, h2, h3⟩ := r; subst h3
    exact VRs.cons h1 (VRs.append h2 k)
theorem VRs.take {E : Env} : ∀ {l : List AVal} {xs : List Value} (n : Nat), VRs E l xs → VRs E (l.take n) (xs.take n)
  | [], xs, n, r => by simp only [VRs] at r; subst r; simp [VRs]
  | a :: l, xs, n, r => by
    simp only [VRs] at r; obtain ⟨x, s, h1, h2, h3⟩ := r; subst h3
    cases n with
    | zero => simp [VRs]
    | succ n => simp only [List.take_succ_cons]; exact VRs.cons h1 (VRs.take n h2)
theorem VRs.drop {E : Env} : ∀ {l : List AVal} {xs : List Value} (n : Nat), VRs E l xs → VRs E (l.drop n) (xs.drop n)
  | [], xs, n, r => by simp only [VRs] at r; subst r; simp [VRs]
  | a :: l, xs, n, r => by
    simp only [VRs] at r; obtain ⟨x, s, h1, h2, h3⟩ := r; subst h3
    cases n with
    | zero => simp; exact VRs.cons h1 h2
    | succ n => simp only [List.drop_succ_cons]; exact VRs.drop n h2
theorem VRs.set {E : Env} : ∀ {l : List AVal} {xs : List Value} {i : Nat} {a : AVal} {x : Value}, VRs E l xs → VR E a x → VRs E (l.set i a) (xs.set i x)
  | [], xs, i, a, x, r, _ => by simp only [VRs] at r; subst r; simp [VRs]
  | b :: l, xs, i, a, x, r, h => by
    simp only [VRs] at r; obtain ⟨y, s, h1, h2, h3⟩ := r; subst h3
    cases i with
    | zero => simp; exact VRs.cons h h2
    | succ i => simp only [List.set_cons_succ]; exact VRs.cons h1 (VRs.set h2 h)
theorem VRs.lits {E : Env} (l : List Value) : VRs E (l.map .lit) l := by
  induction l with
  | nil => exact VRs.nil
  | cons v l ih => exact VRs.cons (by simp only [VR]) ih

/-- A list's cell as 'getD' tells it. -/
theorem VRs.getD {E : Env} {l : List AVal} {xs : List Value} {i : Nat} {a : AVal} (r : VRs E l xs) (h : l[i]? = some a) : VR E a (xs.getD i undef) := by
  obtain ⟨x, h1, h2⟩ := r.get h
  simpa [List.getD, h1] using h2

mutual
/-- The value, where it names no block. -/
def AVal.toLit : AVal → Option Value
  | .lit v => some v
  | .iface t v => v.toLit.map (Value.iface t)
  | .agg l => (toLits l).map (fun xs => Value.agg xs.toArray)
  | .tuple l => (toLits l).map (fun xs => Value.tuple xs.toArray)
  | _ => none
def toLits : List AVal → Option (List Value)
  | [] => some []
  | a :: l => match a.toLit, toLits l with
    | some x, some xs => some (x :: xs)
    | _, _ => none
end

mutual
theorem toLit_eq {E : Env} : ∀ {a : AVal} {x y : Value}, a.toLit = some x → VR E a y → y = x
  | .lit v, x, y, h, r => by simp only [AVal.toLit, Option.some.injEq] at h; simp only [VR] at r; rw [r, h]
  | .iface t v, x, y, h, r => by
    simp only [AVal.toLit, Option.map_eq_some_iff] at h; obtain ⟨z, h1, h2⟩ := h
    simp only [VR] at r; obtain ⟨u, r1, r2⟩ := r
    rw [r2, ← h2, toLit_eq h1 r1]
  | .agg l, x, y, h, r => by
    simp only [AVal.toLit, Option.map_eq_some_iff] at h; obtain ⟨z, h1, h2⟩ := h
    simp only [VR] at r; obtain ⟨u, r1, r2⟩ := r
    rw [r2, ← h2, toLits_eq h1 r1]
  | .tuple l, x, y, h, r => by
    simp only [AVal.toLit, Option.map_eq_some_iff] at h; obtain ⟨z, h1, h2⟩ := h
    simp only [VR] at r; obtain ⟨u, r1, r2⟩ := r
    rw [r2, ← h2, toLits_eq h1 r1]
  | .ptr .., _, _, h, _ => by simp [AVal.toLit] at h
  | .slice .., _, _, h, _ => by simp [AVal.toLit] at h
  | .map .., _, _, h, _ => by simp [AVal.toLit] at h
  | .func .., _, _, h, _ => by simp [AVal.toLit] at h
theorem toLits_eq {E : Env} : ∀ {l : List AVal} {xs ys : List Value}, toLits l = some xs → VRs E l ys → ys = xs
  | [], xs, ys, h, r => by simp only [toLits, Option.some.injEq] at h; simp only [VRs] at r; rw [r, ← h]
  | a :: l, xs, ys, h, r => by
    simp only [toLits] at h
    simp only [VRs] at r; obtain ⟨x, s, r1, r2, r3⟩ := r
    split at h
    · rename_i u us h1 h2
      simp only [Option.some.injEq] at h
      rw [r3, ← h, toLit_eq h1 r1, toLits_eq h2 r2]
    · simp at h
end

/-- The cells that a value takes up. -/
def AVal.cells : AVal → List AVal
  | .agg l => l
  | .lit (.agg cs) => cs.toList.map .lit
  | v => [v]
theorem VR.cells {E : Env} {a : AVal} {x : Value} (r : VR E a x) : VRs E a.cells x.cells.toList := by
  cases a with
  | agg l => simp only [VR] at r; obtain ⟨xs, h, rfl⟩ := r; simpa [AVal.cells, Value.cells] using h
  | lit v => 
    simp only [VR] at r; subst r
    cases x <;> simp only [AVal.cells, Value.cells] <;> first | exact VRs.lits _ | exact VRs.cons (by simp only [VR]) VRs.nil
  | ptr b off => simp only [VR] at r; obtain ⟨c, h, rfl⟩ := r; exact VRs.cons (by simp only [VR]; exact ⟨c, h, rfl⟩) VRs.nil
  | slice b off len m q => simp only [VR] at r; obtain ⟨c, k, h, h2, rfl⟩ := r; exact VRs.cons (by simp only [VR]; exact ⟨c, k, h, h2, rfl⟩) VRs.nil
  | map b => simp only [VR] at r; obtain ⟨c, h, rfl⟩ := r; exact VRs.cons (by simp only [VR]; exact ⟨c, h, rfl⟩) VRs.nil
  | func fn f g => simp only [VR] at r; obtain ⟨fs, gs, h, h2, rfl⟩ := r; exact VRs.cons (by simp only [VR]; exact ⟨fs, gs, h, h2, rfl⟩) VRs.nil
  | iface t v => simp only [VR] at r; obtain ⟨y, h, rfl⟩ := r; exact VRs.cons (by simp only [VR]; exact ⟨y, h, rfl⟩) VRs.nil
  | tuple l => simp only [VR] at r; obtain ⟨xs, h, rfl⟩ := r; exact VRs.cons (by simp only [VR]; exact ⟨xs, h, rfl⟩) VRs.nil

/-- An entry of a map. -/
structure AEnt where
  key : AVal
  val : AVal
  born : Nat

/-- A block. 'op': its cells go on, unknown, up to the capacity named, times the cells of one element. -/
inductive AObj where
  | cells (l : List AVal) (elem : TypeId) (fz : Nat × Nat) (op : Option (Nat × Nat))
  | map (es : List AEnt) (clock : Nat)
  | iter (m : Option Nat) (since : Nat) (seen : List Nat) (stepped : Nat)
  | raw (o : Obj)
  deriving Inhabited

def ER (E : Env) : List AEnt → List MapEntry → Prop
  | [], xs => xs = []
  | a :: l, xs => ∃ x r, VR E a.key x.key ∧ VR E a.val x.val ∧ x.born = a.born ∧ ER E l r ∧ xs = x :: r

theorem ER.mono {E F : Env} (h : E.Le F) : ∀ (l : List AEnt) (xs : List MapEntry), ER E l xs → ER F l xs
  | [], xs, r => by simpa only [ER] using r
  | a :: l, xs, r => by
    simp only [ER] at r ⊢; obtain ⟨x, s, h1, h2, h3, h4, h5⟩ := r
    exact ⟨x, s, VR.mono h _ _ h1, VR.mono h _ _ h2, h3, ER.mono h l s h4, h5⟩

def OptB (E : Env) : Option Nat → Option Nat → Prop
  | none, c => c = none
  | some m, c => ∃ d, E.rho m = some d ∧ c = some d

theorem OptB.mono {E F : Env} (h : E.Le F) {m c : Option Nat} (r : OptB E m c) : OptB F m c := by
  cases m with
  | none => exact r
  | some m => obtain ⟨d, h1, h2⟩ := r; exact ⟨d, h.rho _ _ h1, h2⟩

def OR (E : Env) : AObj → Obj → Prop
  | .cells l e fz none, o => ∃ xs, VRs E l xs ∧ o = .cells xs.toArray e fz
  | .cells l e fz (some (q, s)), o => ∃ xs tail n, VRs E l xs ∧ E.kap q = some n ∧ xs.length + tail.length = n * s ∧ o = .cells (xs ++ tail).toArray e fz
  | .map es clock, o => ∃ xs, ER E es xs ∧ o = .map xs.toArray clock
  | .iter m since seen stepped, o => ∃ c, OptB E m c ∧ o = .mapIter c since seen.toArray stepped
  | .raw u, o => o = u

theorem OR.mono {E F : Env} (h : E.Le F) (a : AObj) (o : Obj) (r : OR E a o) : OR F a o := by
  match a with
  | .cells l e fz none => obtain ⟨xs, h1, h2⟩ := r; exact ⟨xs, VRs.mono h _ _ h1, h2⟩
  | .cells l e fz (some (q, s)) => obtain ⟨xs, t, n, h1, h2, h3, h4⟩ := r; exact ⟨xs, t, n, VRs.mono h _ _ h1, h.kap _ _ h2, h3, h4⟩
  | .map es clock => obtain ⟨xs, h1, h2⟩ := r; exact ⟨xs, ER.mono h _ _ h1, h2⟩
  | .iter m a b c => obtain ⟨x, h1, h2⟩ := r; exact ⟨x, h1.mono h, h2⟩
  | .raw u => exact r

structure St where
  heap : List AObj
  caps : List Nat
  stk : List (List AVal)

def SR (E : Env) : List (List AVal) → List (List Value) → Prop
  | [], X => X = []
  | a :: l, X => ∃ x r, VRs E a x ∧ SR E l r ∧ X = x :: r
theorem SR.mono {E F : Env} (h : E.Le F) : ∀ (l : List (List AVal)) (X : List (List Value)), SR E l X → SR F l X
  | [], xs, r => by simpa only [SR] using r
  | a :: l, xs, r => by
    simp only [SR] at r ⊢; obtain ⟨x, s, h1, h2, h3⟩ := r; exact ⟨x, s, VRs.mono h a x h1, SR.mono h l s h2, h3⟩

/-- What is fixed throughout: the globals that are known, the first own block, the world at the beginning. -/
structure Fix where
  glob : Nat → Option (List Value)
  n0 : Nat
  w0 : World
  hglob : ∀ g l, glob g = some l → g < n0 ∧ ∀ i v, l[i]? = some v → w0.cell? ⟨g, i, none⟩ = some v

structure Ok (K : Fix) (E : Env) (S : St) (X : List (List Value)) (w : World) : Prop where
  dom : ∀ b, (E.rho b).isSome → b < S.heap.length
  obj : ∀ b o, S.heap[b]? = some o → ∃ c x, E.rho b = some c ∧ K.n0 ≤ c ∧ w.heap[c]? = some x ∧ OR E o x
  inj : ∀ b b' c, E.rho b = some c → E.rho b' = some c → b = b'
  kdom : ∀ q, (E.kap q).isSome → q < S.caps.length
  lb : ∀ q l, S.caps[q]? = some l → ∃ n, E.kap q = some n ∧ l ≤ n ∧ n ≤ 9223372036854775807
  below : Below K.n0 K.w0 w
  base : K.n0 ≤ w.heap.size
  stk : SR E S.stk X

theorem Ok.lt {K E S X w} (h : Ok K E S X w) {b c : Nat} (hb : E.rho b = some c) : c < w.heap.size := by
  have hl := h.dom b (by simp [hb])
  obtain ⟨c', x, h1, _, h3, _⟩ := h.obj b S.heap[b] (by simp [hl])
  rw [hb] at h1; obtain rfl := Option.some.inj h1
  exact (Array.getElem?_eq_some_iff.1 h3).1

theorem Ok.globAt {K E S X w} (h : Ok K E S X w) {g : Nat} {l : List Value} (hg : K.glob g = some l) : ∀ i v, l[i]? = some v → w.cell? ⟨g, i, none⟩ = some v := by
  obtain ⟨h1, h2⟩ := K.hglob g l hg
  intro i v hv
  have := h2 i v hv
  simp only [World.cell?] at this ⊢
  rw [h.below.block g h1]; exact this

/-- A computation that asks nothing of the world. -/
def still {α : Type} (P : Program) : Sem α → Option α
  | .pure a => some a
  | .program k => still P (k P)
  | .mark _ k => still P k
  | _ => none

theorem still_run {α : Type} {P : Program} : ∀ {s : Sem α} {a : α}, still P s = some a → ∀ w, s.run P w = .ok a w
  | .pure _, a, h, w => by simp only [still, Option.some.injEq] at h; subst h; rfl
  | .program k, a, h, w => by simp only [still] at h; simpa only [Sem.run] using still_run h w
  | .mark _ k, a, h, w => by simp only [still] at h; simpa only [Sem.run] using still_run h w
  | .load .., _, h, _ => by simp [still] at h
  | .store .., _, h, _ => by simp [still] at h
  | .new .., _, h, _ => by simp [still] at h
  | .shape .., _, h, _ => by simp [still] at h
  | .freeze .., _, h, _ => by simp [still] at h
  | .frozen .., _, h, _ => by simp [still] at h
  | .getObj .., _, h, _ => by simp [still] at h
  | .setObj .., _, h, _ => by simp [still] at h
  | .choose .., _, h, _ => by simp [still] at h
  | .sys .., _, h, _ => by simp [still] at h
  | .halt .., _, h, _ => by simp [still] at h

end Go.Eng

namespace Go.Eng
open Go.RowKit

variable {P : Program} {K : Fix} {E F : Env} {S S' : St} {X : List (List Value)} {w w' : World} {a b v : AVal} {x y : Value} {t s : TypeId} {l r : List AVal} {xs : List Value} {i j n off f : Nat}

section runs
theorem run_underlying' {t : TypeId} {d : TypeDesc} (h : P.underlying t = some d) : (underlying t).run P w = .ok d w := by simp [underlying, h]
theorem run_typeInfo' {t : TypeId} {i : TypeInfo} (h : P.info? t = some i) : (typeInfo t).run P w = .ok i w := by simp [typeInfo, h]
theorem run_sizeOf' {t : TypeId} {i : TypeInfo} (h : P.info? t = some i) : (sizeOf t).run P w = .ok i.size w := by simp [sizeOf, run_typeInfo' h]
end runs

def isAggD : TypeDesc → Bool
  | .struct _ | .array _ _ => true
  | _ => false
theorem run_isAgg' {P : Program} {w : World} {t : TypeId} {d : TypeDesc} (h : P.underlying t = some d) : (isAgg t).run P w = .ok (isAggD d) w := by
  simp only [isAgg, Sem.run_bind, run_underlying' h, Result.andThen_ok]
  cases d <;> rfl

/-- A list's elements from a place on, so many, all there. -/
def sub (l : List AVal) (i n : Nat) : Option (List AVal) := if i + n ≤ l.length then some ((l.drop i).take n) else none

theorem sub_rel (h : VRs E l xs) (hs : sub l i n = some r) : VRs E r ((xs.drop i).take n) ∧ i + n ≤ xs.length := by
  unfold sub at hs
  split at hs
  · rename_i hle
    simp only [Option.some.injEq] at hs; subst hs
    exact ⟨(h.drop i).take n, by rw [← h.length]; exact hle⟩
  · simp at hs

def cellsOf : AObj → Option (List AVal)
  | .cells l _ _ _ => some l
  | _ => none

/-- What an own block's first cells are. -/
theorem Ok.cells (h : Ok K E S X w) {b c : Nat} {o : AObj} {l : List AVal} (hb : E.rho b = some c) (ho : S.heap[b]? = some o) (hl : cellsOf o = some l) :
    ∃ xs, VRs E l xs ∧ ∀ i, i < xs.length → w.cell? ⟨c, i, none⟩ = xs[i]? := by
  obtain ⟨c', x, h1, _, h3, h4⟩ := h.obj b o ho
  rw [hb] at h1; obtain rfl := Option.some.inj h1
  match o, hl, h4 with
  | .cells l e fz none, hl, h4 =>
    simp only [cellsOf, Option.some.injEq] at hl; subst hl
    obtain ⟨xs, r, rfl⟩ := h4
    refine ⟨xs, r, fun i hi => ?_⟩
    simp [World.cell?, h3]
  | .cells l e fz (some (q, s)), hl, h4 =>
    simp only [cellsOf, Option.some.injEq] at hl; subst hl
    obtain ⟨xs, t, n, r, _, _, rfl⟩ := h4
    refine ⟨xs, r, fun i hi => ?_⟩
    simp [World.cell?, h3, List.getElem?_append_left hi]

theorem run_loadCellsFrom {P : Program} {w : World} {a : Addr} : ∀ (xs : List Value) (i : Nat) (acc : Array Value),
    (∀ j, j < xs.length → w.cell? (a.add (i + j)) = xs[j]?) → (loadCellsFrom a i xs.length acc).run P w = .ok (acc ++ xs.toArray) w
  | [], i, acc, _ => by simp [loadCellsFrom]
  | x :: xs, i, acc, h => by
    have h0 := h 0 (by simp)
    simp only [Nat.add_zero, List.getElem?_cons_zero] at h0
    simp only [List.length_cons, loadCellsFrom, Sem.run_bind, run_load, h0, Result.andThen_ok]
    rw [run_loadCellsFrom xs (i + 1) (acc.push x) (fun j hj => by
      have := h (j + 1) (by simp; omega)
      rw [show i + 1 + j = i + (j + 1) by omega, this]; simp)]
    simp

theorem run_loadCells {P : Program} {w : World} {a : Addr} (xs : List Value) (h : ∀ j, j < xs.length → w.cell? (a.add j) = xs[j]?) :
    (loadCells a xs.length).run P w = .ok xs.toArray w := by
  rw [loadCells, run_loadCellsFrom xs 0 #[] (fun j hj => by simpa using h j hj)]; simp

theorem add_plain (c off n : Nat) : (⟨c, off, none⟩ : Addr).add n = ⟨c, off + n, none⟩ := by
  unfold Addr.add; split <;> simp_all

/-- A load. -/
def aload (P : Program) (K : Fix) (S : St) (t : TypeId) (a : AVal) : Option AVal := do
  let d ← P.underlying t
  match a with
  | .ptr b off =>
    let l ← cellsOf (← S.heap[b]?)
    if isAggD d then return .agg (← sub l off (← P.info? t).size) else l[off]?
  | .lit (.pointer (some ⟨g, off, none⟩)) =>
    let l ← K.glob g
    if isAggD d then return .agg (← sub (l.map .lit) off (← P.info? t).size) else (l[off]?).map .lit
  | _ => none

theorem aload_sound (h : Ok K E S X w) (ha : VR E a x) (hv : aload P K S t a = some v) :
    ∃ y, (Instr.loadAt t x).run P w = .ok y w ∧ VR E v y := by
  unfold aload at hv
  simp only [Option.bind_eq_bind, Option.bind_eq_some_iff] at hv
  obtain ⟨d, hd, hv⟩ := hv
  split at hv
  · rename_i b off
    simp only [VR] at ha; obtain ⟨c, hc, rfl⟩ := ha
    simp only [Option.bind_eq_some_iff] at hv
    obtain ⟨o, ho, l, hl, hv⟩ := hv
    obtain ⟨xs, hx, hcell⟩ := h.cells hc ho hl
    split at hv
    · rename_i hagg
      simp only [Option.bind_eq_some_iff] at hv
      obtain ⟨i, hi, r, hr, hv⟩ := hv
      simp only [Option.pure_def, Option.some.injEq] at hv; subst hv
      obtain ⟨r1, r2⟩ := sub_rel hx hr
      have hlen : ((xs.drop off).take i.size).length = i.size := by simp; omega
      refine ⟨.agg ((xs.drop off).take i.size).toArray, ?_, by simp only [VR]; exact ⟨_, r1, rfl⟩⟩
      have hlc := run_loadCells (P := P) (w := w) (a := ⟨c, off, none⟩) ((xs.drop off).take i.size) (fun j hj => by
        rw [add_plain, hcell _ (by omega)]
        rw [List.getElem?_take_of_lt (by omega), List.getElem?_drop])
      rw [hlen] at hlc
      simp [Instr.loadAt, Instr.sureAddr, loadVar, run_isAgg' hd, hagg, run_sizeOf' hi, hlc]
    · rename_i hagg
      obtain ⟨y, hy, hr⟩ := hx.get hv
      have hlt : off < xs.length := (List.getElem?_eq_some_iff.1 hy).1
      refine ⟨y, ?_, hr⟩
      have := hcell off hlt
      simp [Instr.loadAt, Instr.sureAddr, loadVar, run_isAgg' hd, hagg, this, hy]
  · rename_i g off
    simp only [VR] at ha; subst ha
    simp only [Option.bind_eq_some_iff] at hv
    obtain ⟨l, ho, hv⟩ := hv
    have hg := h.globAt ho
    have hcell : ∀ i, i < l.length → w.cell? ⟨g, i, none⟩ = l[i]? := fun i hi => by
      rw [List.getElem?_eq_getElem hi]; exact hg i _ (List.getElem?_eq_getElem hi)
    split at hv
    · rename_i hagg
      simp only [Option.bind_eq_some_iff] at hv
      obtain ⟨i, hi, r, hr, hv⟩ := hv
      simp only [Option.pure_def, Option.some.injEq] at hv; subst hv
      obtain ⟨r1, r2⟩ := sub_rel (E := E) (VRs.lits l) hr
      have hlen : ((l.drop off).take i.size).length = i.size := by simp at r2 ⊢; omega
      refine ⟨.agg ((l.drop off).take i.size).toArray, ?_, by simp only [VR]; exact ⟨_, r1, rfl⟩⟩
      have hlc := run_loadCells (P := P) (w := w) (a := ⟨g, off, none⟩) ((l.drop off).take i.size) (fun j hj => by
        rw [add_plain, hcell _ (by omega)]
        rw [List.getElem?_take_of_lt (by omega), List.getElem?_drop])
      rw [hlen] at hlc
      simp only [Instr.loadAt, Instr.sureAddr, loadVar, Sem.run_bind, Sem.run_pure, Result.andThen_ok, run_isAgg' hd, hagg, if_true, run_sizeOf' hi, hlc]
    · rename_i hagg
      simp only [Option.map_eq_some_iff] at hv
      obtain ⟨y, hy, rfl⟩ := hv
      refine ⟨y, ?_, by simp only [VR]⟩
      have := hcell off (List.getElem?_eq_some_iff.1 hy).1
      rw [hy] at this
      simp [Instr.loadAt, Instr.sureAddr, loadVar, run_isAgg' hd, hagg, this]
  · simp at hv

/-- A field's or an element's address. -/
def afieldAt (P : Program) (s : TypeId) (a : AVal) (f : Nat) : Option AVal :=
  match a with
  | .ptr b off =>
    match P.underlying s with
    | some (.struct fields) =>
      match fields[f]? with
      | some fd =>
        match P.info? fd.type with
        | some i => if i.size = 0 then none else some (.ptr b (off + fd.offset))
        | none => none
      | none => none
    | _ => none
  | .lit v => (still P (Instr.fieldAt s v f)).map .lit
  | _ => none

theorem afieldAt_sound (ha : VR E a x) (hv : afieldAt P s a f = some v) : ∃ y, (Instr.fieldAt s x f).run P w = .ok y w ∧ VR E v y := by
  unfold afieldAt at hv
  split at hv
  · rename_i b off
    simp only [VR] at ha; obtain ⟨c, hc, rfl⟩ := ha
    split at hv
    · rename_i fields hd
      split at hv
      · rename_i fd hfd
        split at hv
        · rename_i i hi
          split at hv
          · simp at hv
          · rename_i hz
            simp only [Option.some.injEq] at hv; subst hv
            refine ⟨.pointer (some ⟨c, off + fd.offset, none⟩), ?_, by simp only [VR]; exact ⟨c, hc, rfl⟩⟩
            simp [Instr.fieldAt, run_underlying' hd, hfd, Instr.sureAddr, fieldPlace, run_sizeOf' hi, hz, add_plain]
        · simp at hv
      · simp at hv
    · simp at hv
  · simp only [VR] at ha; subst ha
    simp only [Option.map_eq_some_iff] at hv
    obtain ⟨y, hy, rfl⟩ := hv
    exact ⟨y, still_run hy w, by simp only [VR]⟩
  · simp at hv

def aindexAt (P : Program) (t : TypeId) (a i : AVal) : Option AVal :=
  match a, i with
  | .slice b off len _ _, .lit (.int _ n) =>
    match P.underlying t with
    | some (.slice e) => match P.info? e with
      | some inf => if 0 ≤ n ∧ n < (len : Int) then some (.ptr b (off + n.toNat * inf.size)) else none
      | none => none
    | _ => none
  | .ptr b off, .lit (.int _ n) =>
    match P.underlying t with
    | some (.array len e) => match P.info? e with
      | some inf => if 0 ≤ n ∧ n < (len : Int) then some (.ptr b (off + n.toNat * inf.size)) else none
      | none => none
    | _ => none
  | .lit v, .lit n => (still P (Instr.indexAt t v n)).map .lit
  | _, _ => none

theorem aindexAt_sound {u : AVal} {z : Value} (ha : VR E a x) (hi : VR E u z) (hv : aindexAt P t a u = some v) : ∃ y, (Instr.indexAt t x z).run P w = .ok y w ∧ VR E v y := by
  unfold aindexAt at hv
  split at hv
  · rename_i b off len m q k n
    simp only [VR] at ha hi; obtain ⟨c, cap, hc, _, rfl⟩ := ha; subst hi
    split at hv
    · rename_i e hd
      split at hv
      · rename_i inf hinf
        split at hv
        · rename_i hb
          simp only [Option.some.injEq] at hv; subst hv
          refine ⟨.pointer (some ⟨c, off + n.toNat * inf.size, none⟩), ?_, by simp only [VR]; exact ⟨c, hc, rfl⟩⟩
          simp [Instr.indexAt, asIntOf, run_underlying' hd, hb, run_sizeOf' hinf, add_plain]
        · simp at hv
      · simp at hv
    · simp at hv
  · rename_i b off k n
    simp only [VR] at ha hi; obtain ⟨c, hc, rfl⟩ := ha; subst hi
    split at hv
    · rename_i len e hd
      split at hv
      · rename_i inf hinf
        split at hv
        · rename_i hb
          simp only [Option.some.injEq] at hv; subst hv
          refine ⟨.pointer (some ⟨c, off + n.toNat * inf.size, none⟩), ?_, by simp only [VR]; exact ⟨c, hc, rfl⟩⟩
          simp [Instr.indexAt, asIntOf, run_underlying' hd, Instr.sureAddr, hb, run_sizeOf' hinf, add_plain]
        · simp at hv
      · simp at hv
    · simp at hv
  · simp only [VR] at ha hi; subst ha; subst hi
    simp only [Option.map_eq_some_iff] at hv
    obtain ⟨y, hy, rfl⟩ := hv
    exact ⟨y, still_run hy w, by simp only [VR]⟩
  · simp at hv

/-- A part of a struct or an array. -/
def apart (P : Program) (t : TypeId) (l : List AVal) (off : Nat) : Option AVal := do
  let d ← P.underlying t
  if isAggD d then return .agg (← sub l off (← P.info? t).size) else l[off]?

theorem apart_sound (h : VRs E l xs) (hv : apart P t l off = some v) : ∃ y, (part t xs.toArray off).run P w = .ok y w ∧ VR E v y := by
  unfold apart at hv
  simp only [Option.bind_eq_bind, Option.bind_eq_some_iff] at hv
  obtain ⟨d, hd, hv⟩ := hv
  split at hv
  · rename_i hagg
    simp only [Option.bind_eq_some_iff] at hv
    obtain ⟨i, hi, r, hr, hv⟩ := hv
    simp only [Option.pure_def, Option.some.injEq] at hv; subst hv
    obtain ⟨r1, r2⟩ := sub_rel h hr
    refine ⟨.agg ((xs.drop off).take i.size).toArray, ?_, by simp only [VR]; exact ⟨_, r1, rfl⟩⟩
    simp [part, run_isAgg' hd, hagg, run_sizeOf' hi]
  · rename_i hagg
    obtain ⟨y, hy, hr⟩ := h.get hv
    refine ⟨y, ?_, hr⟩
    simp [part, run_isAgg' hd, hagg, hy]

def afield (P : Program) (t : TypeId) (a : AVal) (f : Nat) : Option AVal :=
  match a with
  | .agg l =>
    match P.underlying t with
    | some (.struct fields) => match fields[f]? with
      | some fd => apart P fd.type l fd.offset
      | none => none
    | _ => none
  | .lit v => (still P (Instr.field t v f)).map .lit
  | _ => none

theorem afield_sound (ha : VR E a x) (hv : afield P t a f = some v) : ∃ y, (Instr.field t x f).run P w = .ok y w ∧ VR E v y := by
  unfold afield at hv
  split at hv
  · simp only [VR] at ha; obtain ⟨xs, hx, rfl⟩ := ha
    split at hv
    · rename_i fields hd
      split at hv
      · rename_i fd hfd
        obtain ⟨y, h1, h2⟩ := apart_sound (w := w) hx hv
        refine ⟨y, ?_, h2⟩
        simp [Instr.field, run_underlying' hd, hfd, asAgg, h1]
      · simp at hv
    · simp at hv
  · simp only [VR] at ha; subst ha
    simp only [Option.map_eq_some_iff] at hv
    obtain ⟨y, hy, rfl⟩ := hv
    exact ⟨y, still_run hy w, by simp only [VR]⟩
  · simp at hv

def aindex (P : Program) (t : TypeId) (a i : AVal) : Option AVal :=
  match a, i with
  | .agg l, .lit (.int _ n) =>
    match P.underlying t with
    | some (.array len e) => match P.info? e with
      | some inf => if 0 ≤ n ∧ n < (len : Int) then apart P e l (n.toNat * inf.size) else none
      | none => none
    | _ => none
  | .lit v, .lit n => (still P (Instr.index t v n)).map .lit
  | _, _ => none

theorem aindex_sound {u : AVal} {z : Value} (ha : VR E a x) (hi : VR E u z) (hv : aindex P t a u = some v) : ∃ y, (Instr.index t x z).run P w = .ok y w ∧ VR E v y := by
  unfold aindex at hv
  split at hv
  · rename_i l k n
    simp only [VR] at ha hi; obtain ⟨xs, hx, rfl⟩ := ha; subst hi
    split at hv
    · rename_i len e hd
      split at hv
      · rename_i inf hinf
        split at hv
        · rename_i hb
          obtain ⟨y, h1, h2⟩ := apart_sound (w := w) hx hv
          refine ⟨y, ?_, h2⟩
          simp [Instr.index, asIntOf, run_underlying' hd, hb, run_sizeOf' hinf, h1]
        · simp at hv
      · simp at hv
    · simp at hv
  · simp only [VR] at ha hi; subst ha; subst hi
    simp only [Option.map_eq_some_iff] at hv
    obtain ⟨y, hy, rfl⟩ := hv
    exact ⟨y, still_run hy w, by simp only [VR]⟩
  · simp at hv

def aextract (P : Program) (a : AVal) (i : Nat) : Option AVal :=
  match a with
  | .tuple l => l[i]?
  | .lit v => (still P (Instr.extract v i)).map .lit
  | _ => none

theorem aextract_sound (ha : VR E a x) (hv : aextract P a i = some v) : ∃ y, (Instr.extract x i).run P w = .ok y w ∧ VR E v y := by
  unfold aextract at hv
  split at hv
  · simp only [VR] at ha; obtain ⟨xs, hx, rfl⟩ := ha
    obtain ⟨y, hy, hr⟩ := hx.get hv
    exact ⟨y, by simp [Instr.extract, hy], hr⟩
  · simp only [VR] at ha; subst ha
    simp only [Option.map_eq_some_iff] at hv
    obtain ⟨y, hy, rfl⟩ := hv
    exact ⟨y, still_run hy w, by simp only [VR]⟩
  · simp at hv

end Go.Eng

namespace Go.Eng
open Go.RowKit

variable {P : Program} {K : Fix} {E F : Env} {S S' : St} {X : List (List Value)} {w w' : World} {a b v : AVal} {x y : Value} {t s : TypeId} {l r : List AVal} {xs : List Value} {i j n off f : Nat}

theorem run_getObj_map {m : Nat} {es : Array MapEntry} {c : Nat} (h : w.heap[m]? = some (.map es c)) : (getObj m).run P w = .ok (.map es c) w := by
  simp [getObj, Sem.run, h]

theorem ER.length : ∀ {es : List AEnt} {ms : List MapEntry}, ER E es ms → es.length = ms.length
  | [], ms, h => by simp only [ER] at h; simp [h]
  | e :: es, ms, h => by
    simp only [ER] at h; obtain ⟨m, r, _, _, _, h4, rfl⟩ := h; simp [ER.length h4]

/-- Where a key stands among entries. -/
def afind (d : TypeDesc) (k : Value) : List AEnt → Nat → Option (Option (Nat × AVal))
  | [], _ => some none
  | e :: es, i =>
    match e.key with
    | .lit kv => match Instr.sameNow d k kv with
      | some true => some (some (i, e.val))
      | some false => afind d k es (i + 1)
      | none => none
    | _ => none

theorem afind_sound {d : TypeDesc} {k : Value} : ∀ {es : List AEnt} {ms : List MapEntry} {i : Nat} {r : Option (Nat × AVal)}, ER E es ms → afind d k es i = some r →
    match r with
    | none => Instr.findNow d k ms i = some none
    | some (j, v) => ∃ x, Instr.findNow d k ms i = some (some (j, x)) ∧ VR E v x ∧ i ≤ j ∧ j < i + es.length
  | [], ms, i, r, h, hf => by
    simp only [ER] at h; subst h
    simp only [afind, Option.some.injEq] at hf; subst hf
    rfl
  | e :: es, ms, i, r, h, hf => by
    simp only [ER] at h; obtain ⟨m, s, h1, h2, h3, h4, rfl⟩ := h
    unfold afind at hf
    split at hf
    · rename_i kv hk
      rw [hk] at h1; simp only [VR] at h1
      split at hf
      · rename_i hs
        simp only [Option.some.injEq] at hf; subst hf
        refine ⟨m.val, ?_, h2, Nat.le_refl _, by simp⟩
        simp only [Instr.findNow, h1, hs]
      · rename_i hs
        have := afind_sound h4 hf
        cases r with
        | none => simp only at this ⊢; simp only [Instr.findNow, h1, hs, this]
        | some p =>
          obtain ⟨x, t1, t2, t3, t4⟩ := this
          refine ⟨x, ?_, t2, by omega, by simp; omega⟩
          simp only [Instr.findNow, h1, hs, t1]
      · simp at hf
    · simp at hf

/-- 'm[k]'. -/
def alookup (P : Program) (S : St) (t : TypeId) (a k : AVal) (ok : Bool) : Option AVal :=
  match a, k with
  | .map b, .lit kv =>
    match P.underlying t, S.heap[b]? with
    | some (.map kt et), some (.map es _) =>
      match P.underlying kt with
      | none => none
      | some d =>
        match still P (Instr.checkKey es.isEmpty 10000 kt kv), afind d kv es 0, still P (zeroValue et) with
        | some _, some none, some z => some (if ok then .tuple [.lit z, .lit (.bool false)] else .lit z)
        | some _, some (some (_, v)), _ => some (if ok then .tuple [v, .lit (.bool true)] else v)
        | _, _, _ => none
    | _, _ => none
  | .lit v, .lit kv => (still P (Instr.lookup t v kv ok)).map .lit
  | _, _ => none

theorem VRs.two {p q : AVal} {y z : Value} (h : VR E p y) (k : VR E q z) : VR E (.tuple [p, q]) (.tuple #[y, z]) := by
  simp only [VR]; exact ⟨[y, z], VRs.cons h (VRs.cons k VRs.nil), rfl⟩

theorem ER.isEmpty {es : List AEnt} {ms : List MapEntry} (h : ER E es ms) : ms.toArray.isEmpty = es.isEmpty := by
  have := h.length
  cases es <;> cases ms <;> simp_all

theorem alookup_sound {u : AVal} {z : Value} {ok : Bool} (h : Ok K E S X w) (ha : VR E a x) (hk : VR E u z) (hv : alookup P S t a u ok = some v) :
    ∃ y, (Instr.lookup t x z ok).run P w = .ok y w ∧ VR E v y := by
  unfold alookup at hv
  split at hv
  · rename_i b kv
    simp only [VR] at ha hk; obtain ⟨c, hc, rfl⟩ := ha; subst hk
    split at hv
    · rename_i kt et es clock hd ho
      obtain ⟨c', o, h1, _, h3, h4⟩ := h.obj _ _ ho
      rw [hc] at h1; obtain rfl := Option.some.inj h1
      obtain ⟨ms, hes, rfl⟩ := h4
      split at hv
      · simp at hv
      · rename_i d hkd
        split at hv
        · rename_i u1 zz hck hf hz
          have hfn := afind_sound hes hf
          simp only at hfn
          simp only [Option.some.injEq] at hv; subst hv
          refine ⟨if ok then .tuple #[zz, .bool false] else zz, ?_, ?_⟩
          · simp only [Instr.lookup, Sem.run_bind, run_underlying' hd, Result.andThen_ok, run_getObj_map h3, Sem.run_pure, hes.isEmpty, still_run hck, Instr.findKey, run_underlying' hkd, hfn, still_run hz]
          · cases ok
            · simp only [VR, Bool.false_eq_true, if_false]
            · simp only [if_true]; exact VRs.two (by simp only [VR]) (by simp only [VR])
        · rename_i u1 i v' oz hck hf
          obtain ⟨xv, hfn, hxv, _, _⟩ := afind_sound hes hf
          simp only [Option.some.injEq] at hv; subst hv
          refine ⟨if ok then .tuple #[xv, .bool true] else xv, ?_, ?_⟩
          · simp only [Instr.lookup, Sem.run_bind, run_underlying' hd, Result.andThen_ok, run_getObj_map h3, Sem.run_pure, hes.isEmpty, still_run hck, Instr.findKey, run_underlying' hkd, hfn]
          · cases ok
            · simp only [Bool.false_eq_true, if_false]; exact hxv
            · simp only [if_true]; exact VRs.two hxv (by simp only [VR])
        · simp at hv
    · simp at hv
  · simp only [VR] at ha hk; subst ha; subst hk
    simp only [Option.map_eq_some_iff] at hv
    obtain ⟨y, hy, rfl⟩ := hv
    exact ⟨y, still_run hy w, by simp only [VR]⟩
  · simp at hv

/-- Parts laid into a struct, an array or a row. -/
def afill (place : Nat → Option (Nat × Nat)) (cells : List AVal) : List (Nat × AVal) → Option (List AVal)
  | [] => some cells
  | (i, v) :: rest =>
    match place i with
    | none => none
    | some (off, size) =>
      if v.cells.length ≠ size || decide (off + v.cells.length > cells.length) then none
      else afill place (cells.take off ++ v.cells ++ cells.drop (off + v.cells.length)) rest

theorem foldl_set {α : Type} : ∀ (vs : List α) (k off : Nat) (cells : List α), off + k + vs.length ≤ cells.length →
    (vs.zipIdx k).foldl (fun cs p => cs.set (off + p.2) p.1) cells = cells.take (off + k) ++ vs ++ cells.drop (off + k + vs.length)
  | [], k, off, cells, h => by simp
  | v :: vs, k, off, cells, h => by
    simp only [List.length_cons] at h
    rw [List.zipIdx_cons, List.foldl_cons, foldl_set vs (k + 1) off _ (by simp; omega)]
    simp only [List.length_cons]
    have e1 : off + (k + 1) = off + k + 1 := by omega
    rw [e1, List.take_add_one, List.take_set_of_le (Nat.le_refl _), List.getElem?_set_self (by omega)]
    rw [List.drop_set_of_lt (by omega)]
    rw [show off + k + (vs.length + 1) = off + k + 1 + vs.length by omega]
    simp only [Option.toList_some, List.append_assoc, List.cons_append, List.nil_append]

theorem foldl_setA {α : Type} (vs cells : Array α) (off : Nat) (h : off + vs.size ≤ cells.size) :
    vs.zipIdx.foldl (fun cs p => cs.setIfInBounds (off + p.2) p.1) cells = (cells.toList.take off ++ vs.toList ++ cells.toList.drop (off + vs.size)).toArray := by
  have key : ∀ (l : List (α × Nat)) (cs : Array α), l.foldl (fun cs p => cs.setIfInBounds (off + p.2) p.1) cs = (l.foldl (fun cs p => cs.set (off + p.2) p.1) cs.toList).toArray := by
    intro l
    induction l with
    | nil => intro cs; simp
    | cons p l ih => intro cs; simp only [List.foldl_cons, ih]; simp
  rw [← Array.foldl_toList, Array.toList_zipIdx, key, foldl_set vs.toList 0 off cells.toList (by simpa using h)]
  simp

def PR (E : Env) : List (Nat × AVal) → List (Nat × Value) → Prop
  | [], xs => xs = []
  | a :: l, xs => ∃ x r, VR E a.2 x ∧ PR E l r ∧ xs = (a.1, x) :: r

theorem afill_sound {place : Nat → Option (Nat × Nat)} : ∀ {ps : List (Nat × AVal)} {qs : List (Nat × Value)} {l : List AVal} {xs : List Value} {r : List AVal},
    PR E ps qs → VRs E l xs → afill place l ps = some r → ∃ ys, Instr.fill place xs.toArray qs = some ys.toArray ∧ VRs E r ys
  | [], qs, l, xs, r, hp, hl, hf => by
    simp only [PR] at hp; subst hp
    simp only [afill, Option.some.injEq] at hf; subst hf
    exact ⟨xs, by simp [Instr.fill], hl⟩
  | (i, v) :: ps, qs, l, xs, r, hp, hl, hf => by
    simp only [PR] at hp; obtain ⟨x, s, h1, h2, rfl⟩ := hp
    unfold afill at hf
    have hc := h1.cells
    have hlen := hc.length
    have hll := hl.length
    split at hf
    · simp at hf
    · rename_i off size hpl
      split at hf
      · simp at hf
      · rename_i hn
        simp only [ne_eq, Bool.or_eq_true, decide_eq_true_eq, not_or, Decidable.not_not, Nat.not_lt] at hn
        obtain ⟨hn1, hn2⟩ := hn
        have hsz : x.cells.size = size := by rw [← hn1, hlen]; simp
        have hle : off + x.cells.size ≤ xs.toArray.size := by simp; rw [hsz, ← hll, ← hn1]; exact hn2
        obtain ⟨ys, g1, g2⟩ := afill_sound h2 (((hl.take off).append hc).append (hl.drop (off + v.cells.length))) hf
        refine ⟨ys, ?_, g2⟩
        simp only [Instr.fill, hpl]
        rw [if_neg (by simp; simp at hle; omega), foldl_setA _ _ _ hle]
        rw [← g1]
        congr 1
        simp [hlen]

end Go.Eng

namespace Go.Eng
open Go.RowKit

variable {P : Program} {K : Fix} {E F : Env} {S S' : St} {X : List (List Value)} {w w' : World} {a b v : AVal} {x y : Value} {t s : TypeId} {l r : List AVal} {xs : List Value} {i j n off f : Nat}

/-- What an operand is. -/
def EvR (E : Env) (A : Operand → Option AVal) (ρ : Operand → Value) : Prop := ∀ o v, A o = some v → VR E v (ρ o)

def aargs (A : Operand → Option AVal) : List Operand → Option (List AVal)
  | [] => some []
  | o :: l => match A o, aargs A l with
    | some v, some vs => some (v :: vs)
    | _, _ => none

theorem aargs_sound {A : Operand → Option AVal} {ρ : Operand → Value} (h : EvR E A ρ) : ∀ {l : List Operand} {vs : List AVal}, aargs A l = some vs → VRs E vs (l.map ρ)
  | [], vs, hv => by simp only [aargs, Option.some.injEq] at hv; subst hv; exact VRs.nil
  | o :: l, vs, hv => by
    simp only [aargs] at hv
    split at hv
    · rename_i v us h1 h2
      simp only [Option.some.injEq] at hv; subst hv
      exact VRs.cons (h _ _ h1) (aargs_sound h h2)
    · simp at hv

/-- Is it nil (by '=='), of a value that isn't, or one known? -/
def anotNil (d : TypeDesc) (a b : AVal) : Bool :=
  match d, a, b with
  | .pointer _, .ptr .., .lit (.pointer none) => true
  | .pointer _, .lit (.pointer none), .ptr .. => true
  | .map .., .map _, .lit (.map none) => true
  | .map .., .lit (.map none), .map _ => true
  | .slice _, .slice .., .lit (.slice none _ _) => true
  | .func .., .func .., .lit .nilFunc => true
  | .interface _, .iface .., .lit .nilIface => true
  | .interface _, .lit .nilIface, .iface .. => true
  | _, _, _ => false

theorem run_equal_notNil {d : TypeDesc} {p q : AVal} (hd : P.underlying t = some d) (hp : VR E p x) (hq : VR E q y) (h : anotNil d p q = true) :
    (Op.equal t x y).run P w = .ok false w := by
  have key : ∀ n, (Op.equalIn (n + 1) t x y).run P w = .ok false w := by
    intro n
    unfold anotNil at h
    split at h <;> (try simp only [VR] at hp hq)
    · obtain ⟨c, hc, rfl⟩ := hp; subst hq
      simp [Op.equalIn, run_underlying' hd]
    · obtain ⟨c, hc, rfl⟩ := hq; subst hp
      simp [Op.equalIn, run_underlying' hd]
    · obtain ⟨c, hc, rfl⟩ := hp; subst hq
      simp [Op.equalIn, run_underlying' hd]
    · obtain ⟨c, hc, rfl⟩ := hq; subst hp
      simp [Op.equalIn, run_underlying' hd]
    · obtain ⟨c, k, hc, _, rfl⟩ := hp; subst hq
      simp [Op.equalIn, run_underlying' hd]
    · obtain ⟨fs, gs, hc, _, rfl⟩ := hp; subst hq
      simp [Op.equalIn, run_underlying' hd]
    · obtain ⟨u, hc, rfl⟩ := hp; subst hq
      simp [Op.equalIn, run_underlying' hd]
    · obtain ⟨u, hc, rfl⟩ := hq; subst hp
      simp [Op.equalIn, run_underlying' hd]
    · cases h
  exact key 9999

theorem run_binOp_notNil {d : TypeDesc} {p q : AVal} {px qx : Operand} (hd : P.underlying t = some d) (hp : VR E p x) (hq : VR E q y) (h : anotNil d p q = true) :
    (do eqGuard .eql t px qx x y; binOp .eql t x y : Sem Value).run P w = .ok (.bool false) w ∧ (do eqGuard .neq t px qx x y; binOp .neq t x y : Sem Value).run P w = .ok (.bool true) w := by
  have he := run_equal_notNil (w := w) hd hp hq h
  have h1 : (eqGuard .eql t px qx x y).run P w = .ok () w ∧ (eqGuard .neq t px qx x y).run P w = .ok () w ∧
      binOp .eql t x y = (do pure (.bool (← Op.equal t x y))) ∧ binOp .neq t x y = (do pure (.bool (!(← Op.equal t x y)))) := by
    unfold anotNil at h
    split at h <;> (try simp only [VR] at hp hq)
    · obtain ⟨c, hc, rfl⟩ := hp; subst hq
      exact ⟨rfl, rfl, rfl, rfl⟩
    · obtain ⟨c, hc, rfl⟩ := hq; subst hp
      exact ⟨rfl, rfl, rfl, rfl⟩
    · obtain ⟨c, hc, rfl⟩ := hp; subst hq
      exact ⟨rfl, rfl, rfl, rfl⟩
    · obtain ⟨c, hc, rfl⟩ := hq; subst hp
      exact ⟨rfl, rfl, rfl, rfl⟩
    · obtain ⟨c, k, hc, _, rfl⟩ := hp; subst hq
      exact ⟨rfl, rfl, rfl, rfl⟩
    · obtain ⟨fs, gs, hc, _, rfl⟩ := hp; subst hq
      exact ⟨rfl, rfl, rfl, rfl⟩
    · obtain ⟨u, hc, rfl⟩ := hp; subst hq
      exact ⟨rfl, rfl, rfl, rfl⟩
    · obtain ⟨u, hc, rfl⟩ := hq; subst hp
      exact ⟨rfl, rfl, rfl, rfl⟩
    · cases h
  obtain ⟨g1, g2, g3, g4⟩ := h1
  simp only [Sem.run_bind, g1, g2, g3, g4, Result.andThen_ok, he, Sem.run_pure, Bool.not_false, and_self]

def abin (P : Program) (op : BinOp) (t : TypeId) (px qx : Operand) (p q : AVal) : Option AVal :=
  match p.toLit, q.toLit with
  | some u, some v => (still P (do eqGuard op t px qx u v; binOp op t u v)).map .lit
  | _, _ =>
    match P.underlying t with
    | none => none
    | some d =>
      if anotNil d p q then (match op with
        | .eql => some (.lit (.bool false))
        | .neq => some (.lit (.bool true))
        | _ => none)
      else none

theorem abin_sound {op : BinOp} {px qx : Operand} {p q : AVal} (hp : VR E p x) (hq : VR E q y) (hv : abin P op t px qx p q = some v) :
    ∃ z, (do eqGuard op t px qx x y; binOp op t x y : Sem Value).run P w = .ok z w ∧ VR E v z := by
  unfold abin at hv
  split at hv
  · rename_i u u' h1 h2
    have e1 := toLit_eq h1 hp
    have e2 := toLit_eq h2 hq
    subst e1; subst e2
    simp only [Option.map_eq_some_iff] at hv
    obtain ⟨z, hz, rfl⟩ := hv
    exact ⟨z, still_run hz w, by simp only [VR]⟩
  · split at hv
    · simp at hv
    · rename_i d hd
      split at hv
      · rename_i hn
        have := run_binOp_notNil (w := w) (px := px) (qx := qx) hd hp hq hn
        split at hv
        · simp only [Option.some.injEq] at hv; subst hv; exact ⟨_, this.1, by simp only [VR]⟩
        · simp only [Option.some.injEq] at hv; subst hv; exact ⟨_, this.2, by simp only [VR]⟩
        · simp at hv
      · simp at hv

def anil : AVal → Option AVal
  | .ptr b off => some (.ptr b off)
  | .map b => some (.map b)
  | .slice b o l m c => some (.slice b o l m c)
  | .func (.func f) x y => some (.func (.func f) x y)
  | .lit (.pointer (some a)) => some (.lit (.pointer (some a)))
  | .lit (.func (.func f) x y) => some (.lit (.func (.func f) x y))
  | .iface t v => some (.iface t v)
  | _ => none

def lits1 (P : Program) (a : AVal) (k : Value → Sem Value) : Option AVal :=
  match a.toLit with
  | some v => (still P (k v)).map .lit
  | none => none

theorem lits1_sound {k : Value → Sem Value} (h : VR E a x) (hv : lits1 P a k = some v) : ∃ y, (k x).run P w = .ok y w ∧ VR E v y := by
  unfold lits1 at hv
  split at hv
  · rename_i u hu
    have e := toLit_eq hu h
    subst e
    simp only [Option.map_eq_some_iff] at hv
    obtain ⟨z, hz, rfl⟩ := hv
    exact ⟨z, still_run hz w, by simp only [VR]⟩
  · simp at hv

def aiface (P : Program) (t : TypeId) (a : AVal) : Option AVal :=
  match P.underlying t with
  | some (.interface _) => none
  | some _ => some (.iface t a)
  | none => none

theorem aiface_sound (h : VR E a x) (hv : aiface P t a = some v) : ∃ y, (Instr.makeInterface t x).run P w = .ok y w ∧ VR E v y := by
  unfold aiface at hv
  split at hv
  · simp at hv
  · rename_i d hne hd
    simp only [Option.some.injEq] at hv; subst hv
    refine ⟨.iface t x, ?_, by simp only [VR]; exact ⟨x, h, rfl⟩⟩
    simp only [Instr.makeInterface, Sem.run_bind, run_underlying' hd, Result.andThen_ok, Sem.run_pure]
  · simp at hv

def aassert (P : Program) (a : AVal) (xt t : TypeId) (ok : Bool) : Option AVal :=
  match a with
  | .iface u v =>
    match P.underlying t with
    | some (.interface _) => none
    | some _ => if u = t then some (if ok then .tuple [v, .lit (.bool true)] else v)
      else if ok then (still P (zeroValue t)).map (fun z => .tuple [.lit z, .lit (.bool false)]) else none
    | none => none
  | .lit v => (still P (Instr.typeAssert v xt t ok)).map .lit
  | _ => none

theorem aassert_sound {xt : TypeId} {ok : Bool} (h : VR E a x) (hv : aassert P a xt t ok = some v) : ∃ y, (Instr.typeAssert x xt t ok).run P w = .ok y w ∧ VR E v y := by
  unfold aassert at hv
  split at hv
  · rename_i u v'
    simp only [VR] at h; obtain ⟨y, hy, rfl⟩ := h
    split at hv
    · simp at hv
    · rename_i d hne hd
      split at hv
      · rename_i hu
        subst hu
        simp only [Option.some.injEq] at hv; subst hv
        refine ⟨if ok then .tuple #[y, .bool true] else y, ?_, ?_⟩
        · simp only [Instr.typeAssert, Sem.run_bind, run_underlying' hd, Result.andThen_ok, if_true]
          cases ok <;> rfl
        · cases ok
          · simp only [Bool.false_eq_true, if_false]; exact hy
          · simp only [if_true]; exact VRs.two hy (by simp only [VR])
      · rename_i hu
        split at hv
        · rename_i hok
          subst hok
          simp only [Option.map_eq_some_iff] at hv
          obtain ⟨z, hz, rfl⟩ := hv
          refine ⟨.tuple #[z, .bool false], ?_, VRs.two (by simp only [VR]) (by simp only [VR])⟩
          simp only [Instr.typeAssert, Sem.run_bind, run_underlying' hd, Result.andThen_ok, if_neg hu, still_run hz, if_true, Sem.run_pure]
        · simp at hv
    · simp at hv
  · simp only [VR] at h; subst h
    simp only [Option.map_eq_some_iff] at hv
    obtain ⟨z, hz, rfl⟩ := hv
    exact ⟨z, still_run hz w, by simp only [VR]⟩
  · simp at hv

/-- A struct's fields' places. -/
def aplaces (P : Program) : List Field → Option (List (Nat × Nat))
  | [] => some []
  | fd :: l => match P.info? fd.type, aplaces P l with
    | some i, some r => some ((fd.offset, i.size) :: r)
    | _, _ => none

theorem mapM_eq {α β : Type} {f : α → Sem β} {g : List β} : ∀ {l : List α}, (l.mapM f).run P w = .ok g w → (l.toArray.mapM f).run P w = .ok g.toArray w := by
  intro l h
  rw [List.mapM_toArray]
  simp [h]

theorem aplaces_sound : ∀ {l : List Field} {r : List (Nat × Nat)}, aplaces P l = some r →
    (l.mapM (fun fd => do pure (fd.offset, ← sizeOf fd.type) : Field → Sem (Nat × Nat))).run P w = .ok r w
  | [], r, h => by simp only [aplaces, Option.some.injEq] at h; subst h; simp
  | fd :: l, r, h => by
    simp only [aplaces] at h
    split at h
    · rename_i i s h1 h2
      simp only [Option.some.injEq] at h; subst h
      simp only [List.mapM_cons, Sem.run_bind, run_sizeOf' h1, Result.andThen_ok, Sem.run_pure, aplaces_sound h2]
    · simp at h

def aparts (A : Operand → Option AVal) : List (Nat × Operand) → Option (List (Nat × AVal))
  | [] => some []
  | p :: l => match A p.2, aparts A l with
    | some v, some vs => some ((p.1, v) :: vs)
    | _, _ => none

theorem aparts_sound {A : Operand → Option AVal} {ρ : Operand → Value} (h : EvR E A ρ) : ∀ {l : List (Nat × Operand)} {vs : List (Nat × AVal)}, aparts A l = some vs → PR E vs (l.map fun p => (p.1, ρ p.2))
  | [], vs, hv => by simp only [aparts, Option.some.injEq] at hv; subst hv; simp [PR]
  | o :: l, vs, hv => by
    simp only [aparts] at hv
    split at hv
    · rename_i v us h1 h2
      simp only [Option.some.injEq] at hv; subst hv
      simp only [PR, List.map_cons]; exact ⟨_, _, h _ _ h1, aparts_sound h h2, rfl⟩
    · simp at hv

def abuild (P : Program) (t : TypeId) (ps : List (Nat × AVal)) : Option AVal :=
  match P.underlying t, still P (zeroValue t) with
  | some (.struct fields), some z =>
    match aplaces P fields.toList with
    | some pl => (afill (fun i => pl[i]?) (AVal.lit z).cells ps).map .agg
    | none => none
  | some (.array _ e), some z =>
    match P.info? e with
    | some i => (afill (fun k => some (k * i.size, i.size)) (AVal.lit z).cells ps).map .agg
    | none => none
  | _, _ => none

theorem abuild_sound {ps : List (Nat × AVal)} {qs : List (Nat × Value)} (h : PR E ps qs) (hv : abuild P t ps = some v) :
    ∃ y, (Instr.build t qs.toArray).run P w = .ok y w ∧ VR E v y := by
  unfold abuild at hv
  split at hv
  · rename_i fields z hd hz
    split at hv
    · rename_i pl hpl
      simp only [Option.map_eq_some_iff] at hv
      obtain ⟨cs, hcs, rfl⟩ := hv
      have hzc : VRs E (AVal.lit z).cells z.cells.toList := VR.cells (by simp only [VR])
      obtain ⟨ys, h1, h2⟩ := afill_sound h hzc hcs
      refine ⟨.agg ys.toArray, ?_, by simp only [VR]; exact ⟨ys, h2, rfl⟩⟩
      have hm := mapM_eq (aplaces_sound (w := w) hpl)
      simp only [Array.toArray_toList] at hm h1
      simp only [Instr.build, Sem.run_bind, still_run hz, Result.andThen_ok, run_underlying' hd, hm]
      simp only [List.getElem?_toArray, h1]
      rfl
    · simp at hv
  · rename_i n e z hd hz
    split at hv
    · rename_i i hi
      simp only [Option.map_eq_some_iff] at hv
      obtain ⟨cs, hcs, rfl⟩ := hv
      have hzc : VRs E (AVal.lit z).cells z.cells.toList := VR.cells (by simp only [VR])
      obtain ⟨ys, h1, h2⟩ := afill_sound h hzc hcs
      refine ⟨.agg ys.toArray, ?_, by simp only [VR]; exact ⟨ys, h2, rfl⟩⟩
      simp only [Array.toArray_toList] at h1
      simp only [Instr.build, Sem.run_bind, still_run hz, Result.andThen_ok, run_underlying' hd, run_sizeOf' hi, h1]
      rfl
    · simp at hv
  · simp at hv

end Go.Eng

namespace Go.Eng
open Go.RowKit

variable {P : Program} {K : Fix} {E F : Env} {S S' : St} {X : List (List Value)} {w w' : World} {a b v : AVal} {x y : Value} {t s : TypeId} {l r : List AVal} {xs : List Value} {i j n off f : Nat}

theorem run_sliceBound {k : IntKind} {m : Int} {c : Nat} {code : BoundsCode} (h0 : 0 ≤ m) (h1 : m.toNat ≤ c) : (Instr.sliceBound (.int k m) c code).run P w = .ok m.toNat w := by
  have : m ≤ (c : Int) := by omega
  simp [Instr.sliceBound, asIntOf, h0, this]

/-- A bound that is a number known, or none. -/
def abound : Option AVal → Option (Option Nat)
  | none => some none
  | some (.lit (.int _ m)) => if 0 ≤ m then some (some m.toNat) else none
  | _ => none

inductive OptR (E : Env) : Option AVal → Option Value → Prop
  | none : OptR E none none
  | some {a : AVal} {x : Value} (h : VR E a x) : OptR E (some a) (some x)

theorem abound_sound {o : Option AVal} {u : Option Value} {r : Option Nat} (h : OptR E o u) (hb : abound o = some r) :
    (r = none ∧ u = none) ∨ ∃ k m, 0 ≤ m ∧ r = some (Int.toNat m) ∧ u = some (.int k m) := by
  cases h with
  | none => simp only [abound, Option.some.injEq] at hb; exact .inl ⟨hb.symm, rfl⟩
  | some h =>
    unfold abound at hb
    split at hb
    · rename_i heq; simp at heq
    · rename_i k m heq
      simp only [Option.some.injEq] at heq; subst heq
      simp only [VR] at h; subst h
      split at hb
      · rename_i h0; simp only [Option.some.injEq] at hb; exact .inr ⟨k, m, h0, hb.symm, rfl⟩
      · simp at hb
    · simp at hb

def capGe (S : St) (m : Nat) (c : Option Nat) (k : Nat) : Bool :=
  match c with
  | none => decide (k ≤ m)
  | some q => match S.caps[q]? with
    | some l => decide (k + m ≤ l)
    | none => false

theorem capGe_sound {m k cap : Nat} {c : Option Nat} (h : Ok K E S X w) (hc : CapR E m c cap) (hg : capGe S m c k = true) : k ≤ cap := by
  cases c with
  | none => simp only [CapR] at hc; simp only [capGe, decide_eq_true_eq] at hg; omega
  | some q =>
    obtain ⟨nn, h1, h2, h3⟩ := hc
    simp only [capGe] at hg
    split at hg
    · rename_i l hl
      simp only [decide_eq_true_eq] at hg
      obtain ⟨n', g1, g2, _⟩ := h.lb q l hl
      rw [h1] at g1; obtain rfl := Option.some.inj g1
      omega
    · cases hg

/-- The bounds of a slice of a slice: the low one, the high one, and the new capacity's own (none: as it was). -/
def abounds (S : St) (len m : Nat) (c : Option Nat) (lo hi mx : Option AVal) : Option (Nat × Nat × Option Nat) :=
  match abound lo, abound hi, abound mx with
  | some lo, some (some u), some (some v) => if capGe S m c v && decide (u ≤ v) && decide (lo.getD 0 ≤ u) then some (lo.getD 0, u, some v) else none
  | some lo, some (some u), some none => if capGe S m c u && decide (lo.getD 0 ≤ u) then some (lo.getD 0, u, none) else none
  | some lo, some none, some none => if decide (lo.getD 0 ≤ len) then some (lo.getD 0, len, none) else none
  | _, _, _ => none

theorem abounds_sound {isSlice : Bool} {len m cap : Nat} {c : Option Nat} {lo hi mx : Option AVal} {lo' hi' mx' : Option Value} {l u : Nat} {q : Option Nat} (h : Ok K E S X w) (hc : CapR E m c cap)
    (h1 : OptR E lo lo') (h2 : OptR E hi hi') (h3 : OptR E mx mx') (hb : abounds S len m c lo hi mx = some (l, u, q)) :
    (Instr.sliceBounds isSlice len cap lo' hi' mx').run P w = .ok (l, u, q.getD cap) w ∧ l ≤ u := by
  unfold abounds at hb
  split at hb
  · rename_i lo2 uu vv e1 e2 e3
    split at hb
    · rename_i hh
      simp only [Bool.and_eq_true, decide_eq_true_eq] at hh
      obtain ⟨⟨g1, g2⟩, g3⟩ := hh
      simp only [Option.some.injEq, Prod.mk.injEq] at hb; obtain ⟨rfl, rfl, rfl⟩ := hb
      have g4 := capGe_sound h hc g1
      rcases abound_sound h2 e2 with ⟨hx, _⟩ | ⟨k2, m2, p2, q2, rfl⟩
      · simp at hx
      rcases abound_sound h3 e3 with ⟨hx, _⟩ | ⟨k3, m3, p3, q3, rfl⟩
      · simp at hx
      simp only [Option.some.injEq] at q2 q3; subst q2; subst q3
      rcases abound_sound h1 e1 with ⟨rfl, rfl⟩ | ⟨k1, m1, p1, rfl, rfl⟩
      · refine ⟨?_, g3⟩
        simp [Instr.sliceBounds, run_sliceBound p3 g4, run_sliceBound p2 g2]
      · refine ⟨?_, g3⟩
        simp only [Option.getD_some] at g3
        simp [Instr.sliceBounds, run_sliceBound p3 g4, run_sliceBound p2 g2, run_sliceBound p1 g3]
    · simp at hb
  · rename_i lo2 uu e1 e2 e3
    split at hb
    · rename_i hh
      simp only [Bool.and_eq_true, decide_eq_true_eq] at hh
      obtain ⟨g1, g3⟩ := hh
      simp only [Option.some.injEq, Prod.mk.injEq] at hb; obtain ⟨rfl, rfl, rfl⟩ := hb
      have g4 := capGe_sound h hc g1
      rcases abound_sound h2 e2 with ⟨hx, _⟩ | ⟨k2, m2, p2, q2, rfl⟩
      · simp at hx
      rcases abound_sound h3 e3 with ⟨_, rfl⟩ | ⟨k3, m3, p3, q3, _⟩
      rotate_left
      · simp at q3
      simp only [Option.some.injEq] at q2; subst q2
      rcases abound_sound h1 e1 with ⟨rfl, rfl⟩ | ⟨k1, m1, p1, rfl, rfl⟩
      · refine ⟨?_, g3⟩
        simp [Instr.sliceBounds, run_sliceBound p2 g4]
      · refine ⟨?_, g3⟩
        simp only [Option.getD_some] at g3
        simp [Instr.sliceBounds, run_sliceBound p2 g4, run_sliceBound p1 g3]
    · simp at hb
  · rename_i lo2 e1 e2 e3
    split at hb
    · rename_i g3
      simp only [decide_eq_true_eq] at g3
      simp only [Option.some.injEq, Prod.mk.injEq] at hb; obtain ⟨rfl, rfl, rfl⟩ := hb
      rcases abound_sound h2 e2 with ⟨_, rfl⟩ | ⟨k2, m2, p2, q2, _⟩
      rotate_left
      · simp at q2
      rcases abound_sound h3 e3 with ⟨_, rfl⟩ | ⟨k3, m3, p3, q3, _⟩
      rotate_left
      · simp at q3
      rcases abound_sound h1 e1 with ⟨rfl, rfl⟩ | ⟨k1, m1, p1, rfl, rfl⟩
      · refine ⟨?_, g3⟩
        simp [Instr.sliceBounds]
      · refine ⟨?_, g3⟩
        simp only [Option.getD_some] at g3
        simp [Instr.sliceBounds, run_sliceBound p1 g3]
    · simp at hb
  · simp at hb

def litOpt : Option AVal → Option (Option Value)
  | none => some none
  | some a => a.toLit.map some

theorem litOpt_sound {o : Option AVal} {u v : Option Value} (h : OptR E o u) (hb : litOpt o = some v) : u = v := by
  cases h with
  | none => simpa [litOpt] using hb
  | some h =>
    simp only [litOpt, Option.map_eq_some_iff] at hb
    obtain ⟨z, hz, rfl⟩ := hb
    rw [toLit_eq hz h]

def aslice (P : Program) (S : St) (t : TypeId) (a : AVal) (lo hi mx : Option AVal) : Option AVal :=
  match a with
  | .slice b off len m c =>
    match P.underlying t with
    | some (.slice e) =>
      match P.info? e, abounds S len m c lo hi mx with
      | some inf, some (l, u, some v) => some (.slice b (if v = l then off else off + l * inf.size) (u - l) (v - l) none)
      | some inf, some (l, u, none) =>
        match c with
        | none => some (.slice b (if m = l then off else off + l * inf.size) (u - l) (m - l) none)
        | some q => if l = 0 then some (.slice b off u m (some q)) else if capGe S m c (l + 1) then some (.slice b (off + l * inf.size) (u - l) (m + l) (some q)) else none
      | _, _ => none
    | _ => none
  | .ptr b off =>
    match P.underlying t with
    | some (.array n e) =>
      match P.info? e, abounds S n n none lo hi mx with
      | some inf, some (l, u, q) => some (.slice b (if q.getD n = l then off else off + l * inf.size) (u - l) (q.getD n - l) none)
      | _, _ => none
    | _ => none
  | .lit v =>
    match litOpt lo, litOpt hi, litOpt mx with
    | some lo, some hi, some mx => (still P (Instr.sliceAt t v lo hi mx)).map .lit
    | _, _, _ => none
  | _ => none

theorem ite_addr (c : Prop) [Decidable c] (d off k : Nat) : (if c then some (⟨d, off, none⟩ : Addr) else some (⟨d, off + k, none⟩ : Addr)) = some ⟨d, if c then off else off + k, none⟩ := by
  split <;> rfl

theorem aslice_sound {lo hi mx : Option AVal} {lo' hi' mx' : Option Value} (h : Ok K E S X w) (ha : VR E a x) (h1 : OptR E lo lo') (h2 : OptR E hi hi') (h3 : OptR E mx mx')
    (hv : aslice P S t a lo hi mx = some v) : ∃ y, (Instr.sliceAt t x lo' hi' mx').run P w = .ok y w ∧ VR E v y := by
  unfold aslice at hv
  split at hv
  · rename_i b off len m c
    simp only [VR] at ha; obtain ⟨d, cap, hd, hcap, rfl⟩ := ha
    split at hv
    · rename_i e hu
      split at hv
      · rename_i inf l u vv hinf hb
        obtain ⟨hr, hle⟩ := abounds_sound (P := P) (isSlice := true) h hcap h1 h2 h3 hb
        simp only [Option.some.injEq] at hv; subst hv
        refine ⟨.slice (some ⟨d, if vv = l then off else off + l * inf.size, none⟩) (u - l) (vv - l), ?_, by simp only [VR]; exact ⟨d, _, hd, rfl, rfl⟩⟩
        simp [Instr.sliceAt, run_underlying' hu, Instr.slice, hr, run_sizeOf' hinf, add_plain, ite_addr]
      · rename_i inf l u hinf hb
        obtain ⟨hr, hle⟩ := abounds_sound (P := P) (isSlice := true) h hcap h1 h2 h3 hb
        split at hv
        · simp only [CapR] at hcap; subst hcap
          simp only [Option.some.injEq] at hv; subst hv
          refine ⟨.slice (some ⟨d, if cap = l then off else off + l * inf.size, none⟩) (u - l) (cap - l), ?_, by simp only [VR]; exact ⟨d, _, hd, rfl, rfl⟩⟩
          simp [Instr.sliceAt, run_underlying' hu, Instr.slice, hr, run_sizeOf' hinf, add_plain, ite_addr]
        · rename_i q
          split at hv
          · rename_i hl0
            subst hl0
            simp only [Option.some.injEq] at hv; subst hv
            refine ⟨.slice (some ⟨d, off, none⟩) u cap, ?_, by simp only [VR]; exact ⟨d, cap, hd, hcap, rfl⟩⟩
            simp [Instr.sliceAt, run_underlying' hu, Instr.slice, hr, run_sizeOf' hinf, add_plain]
          · rename_i hl0
            split at hv
            · rename_i hg
              have hcg := capGe_sound h hcap hg
              simp only [Option.some.injEq] at hv; subst hv
              refine ⟨.slice (some ⟨d, off + l * inf.size, none⟩) (u - l) (cap - l), ?_, ?_⟩
              · have : ¬ cap = l := by omega
                simp [Instr.sliceAt, run_underlying' hu, Instr.slice, hr, run_sizeOf' hinf, add_plain, this]
              · simp only [VR]
                obtain ⟨nn, e1, e2, e3⟩ := hcap
                exact ⟨d, _, hd, ⟨nn, e1, by omega, by omega⟩, rfl⟩
            · simp at hv
      · simp at hv
    · simp at hv
  · rename_i b off
    simp only [VR] at ha; obtain ⟨d, hd, rfl⟩ := ha
    split at hv
    · rename_i nn e hu
      split at hv
      · rename_i inf l u q hinf hb
        obtain ⟨hr, hle⟩ := abounds_sound (P := P) (isSlice := false) (E := E) (c := none) (m := nn) (cap := nn) h (by simp only [CapR]) h1 h2 h3 hb
        simp only [Option.some.injEq] at hv; subst hv
        refine ⟨.slice (some ⟨d, if q.getD nn = l then off else off + l * inf.size, none⟩) (u - l) (q.getD nn - l), ?_, by simp only [VR]; exact ⟨d, _, hd, rfl, rfl⟩⟩
        simp [Instr.sliceAt, run_underlying' hu, Instr.sureAddr, hr, run_sizeOf' hinf, add_plain]
        split <;> simp_all
      · simp at hv
    · simp at hv
  · simp only [VR] at ha; subst ha
    split at hv
    · rename_i e1 e2 e3
      have := litOpt_sound h1 e1; subst this
      have := litOpt_sound h2 e2; subst this
      have := litOpt_sound h3 e3; subst this
      simp only [Option.map_eq_some_iff] at hv
      obtain ⟨z, hz, rfl⟩ := hv
      exact ⟨z, still_run hz w, by simp only [VR]⟩
    · simp at hv
  · simp at hv

/-- A builtin that changes nothing. -/
def abuiltin (P : Program) (S : St) (bi : Builtin) (ats : Array TypeId) (type : TypeId) (consts : Array Bool) (vs : List AVal) : Option AVal :=
  match toLits vs with
  | some us => match still P (builtin bi ats type consts us.toArray) with
    | some (.value v) => some (.lit v)
    | _ => none
  | none =>
    match bi, vs, ats.toList with
    | .len, [.slice _ _ len _ _], [t] => match P.underlying t with
      | some (.slice _) => some (.lit (goInt len))
      | _ => none
    | .len, [.map b], [t] => match P.underlying t, S.heap[b]? with
      | some (.map _ _), some (.map es _) => some (.lit (goInt es.length))
      | _, _ => none
    | .cap, [.slice _ _ _ m none], [t] => match P.underlying t with
      | some (.slice _) => some (.lit (goInt m))
      | _ => none
    | _, _, _ => none

theorem VRs.one (h : VRs E [a] xs) : ∃ x, xs = [x] ∧ VR E a x := by
  simp only [VRs] at h; obtain ⟨x, r, h1, rfl, rfl⟩ := h; exact ⟨x, rfl, h1⟩

theorem abuiltin_sound {bi : Builtin} {ats : Array TypeId} {type : TypeId} {consts : Array Bool} {vs : List AVal} (h : Ok K E S X w) (hs : VRs E vs xs)
    (hv : abuiltin P S bi ats type consts vs = some v) : ∃ y, (builtin bi ats type consts xs.toArray).run P w = .ok (.value y) w ∧ VR E v y := by
  unfold abuiltin at hv
  split at hv
  · rename_i us hus
    have := toLits_eq hus hs; subst this
    split at hv
    · rename_i z hz
      simp only [Option.some.injEq] at hv; subst hv
      exact ⟨z, still_run hz w, by simp only [VR]⟩
    · simp at hv
  · split at hv
    · rename_i bb oo len mm cc t hats _
      have hats : ats = #[t] := by rw [← hats]
      subst hats
      obtain ⟨x, rfl, hx⟩ := hs.one
      simp only [VR] at hx; obtain ⟨d, k, hd, _, rfl⟩ := hx
      split at hv
      · rename_i e hu
        simp only [Option.some.injEq] at hv; subst hv
        exact ⟨goInt len, by simp [builtin, Builtin.len_, run_underlying' hu], by simp only [VR]⟩
      · simp at hv
    · rename_i bb t hats _
      have hats : ats = #[t] := by rw [← hats]
      subst hats
      obtain ⟨x, rfl, hx⟩ := hs.one
      simp only [VR] at hx; obtain ⟨d, hd, rfl⟩ := hx
      split at hv
      · rename_i e1 e2 es clock hu ho
        simp only [Option.some.injEq] at hv; subst hv
        obtain ⟨c', o, g1, _, g3, g4⟩ := h.obj _ _ ho
        rw [hd] at g1; obtain rfl := Option.some.inj g1
        obtain ⟨ms, hes, rfl⟩ := g4
        refine ⟨goInt es.length, ?_, by simp only [VR]⟩
        simp [builtin, Builtin.len_, run_underlying' hu, run_getObj_map g3, hes.length]
      · simp at hv
    · rename_i bb oo len mm t hats _
      have hats : ats = #[t] := by rw [← hats]
      subst hats
      obtain ⟨x, rfl, hx⟩ := hs.one
      simp only [VR] at hx; obtain ⟨d, k, hd, hk, rfl⟩ := hx
      simp only [CapR] at hk; subst hk
      split at hv
      · rename_i e hu
        simp only [Option.some.injEq] at hv; subst hv
        exact ⟨goInt k, by simp [builtin, Builtin.cap_, run_underlying' hu], by simp only [VR]⟩
      · simp at hv
    · simp at hv

def constArg : Operand → Bool
  | .const _ => true
  | _ => false

def aopt (A : Operand → Option AVal) : Option Operand → Option (Option AVal)
  | none => some none
  | some o => (A o).map some

theorem aopt_sound {A : Operand → Option AVal} {ρ : Operand → Value} {o : Option Operand} {u : Option AVal} (h : EvR E A ρ) (ho : aopt A o = some u) : OptR E u (o.map ρ) := by
  cases o with
  | none => simp only [aopt, Option.some.injEq] at ho; subst ho; exact .none
  | some o =>
    simp only [aopt, Option.map_eq_some_iff] at ho
    obtain ⟨z, hz, rfl⟩ := ho
    exact .some (h _ _ hz)

/-- What an operation that changes nothing gives. -/
def byteLits : List AVal → Option (List Int)
  | [] => some []
  | .lit (.int .u8 n) :: l => (byteLits l).map (n :: ·)
  | _ => none

theorem byteLits_sound : ∀ {l : List AVal} {ns : List Int} {xs : List Value}, byteLits l = some ns → VRs E l xs → xs = ns.map (Value.int .u8)
  | [], ns, xs, hv, h => by
    simp only [byteLits, Option.some.injEq] at hv; subst hv
    simp only [VRs] at h; subst h; rfl
  | a :: l, ns, xs, hv, h => by
    simp only [VRs] at h
    obtain ⟨x, r, h1, h2, rfl⟩ := h
    unfold byteLits at hv
    split at hv
    · rename_i heq; cases heq
    · rename_i n l' heq
      simp only [List.cons.injEq] at heq
      obtain ⟨rfl, rfl⟩ := heq
      simp only [Option.map_eq_some_iff] at hv
      obtain ⟨ms, hm, rfl⟩ := hv
      simp only [VR] at h1
      rw [byteLits_sound hm h2, h1]; rfl
    · simp at hv

/-- A conversion: of what names no block, or of bytes to a string. -/
def aconvert (P : Program) (S : St) (s d : TypeId) (a : AVal) : Option AVal :=
  match a with
  | .slice b off len _ _ =>
    match P.underlying s, P.underlying d with
    | some (.slice e), some .string =>
      match P.underlying e with
      | some (.int .u8) => do
        let l ← cellsOf (← S.heap[b]?)
        let r ← sub l off len
        let ns ← byteLits r
        return .lit (.string (strOfNums ns))
      | _ => none
    | _, _ => none
  | a => lits1 P a (convert s d)

theorem aconvert_sound {d : TypeId} (h : Ok K E S X w) (ha : VR E a x) (hv : aconvert P S s d a = some v) : ∃ y, (convert s d x).run P w = .ok y w ∧ VR E v y := by
  unfold aconvert at hv
  split at hv
  · rename_i b off len m q
    split at hv
    · rename_i e hs hd
      split at hv
      · rename_i he
        simp only [Option.bind_eq_bind, Option.bind_eq_some_iff] at hv
        obtain ⟨o, ho, l, hl, r, hr, ns, hn, hv⟩ := hv
        simp only [Option.pure_def, Option.some.injEq] at hv; subst hv
        simp only [VR] at ha; obtain ⟨c, k, hc, _, rfl⟩ := ha
        obtain ⟨xs, hx, hcell⟩ := h.cells hc ho hl
        obtain ⟨r1, r2⟩ := sub_rel hx hr
        have hns := byteLits_sound hn r1
        have hlen : ns.length = len := by
          have := congrArg List.length hns
          simp at this; omega
        refine ⟨_, run_convert_bytes_arg w s e hs he c off len k ns hlen (fun i hi => ?_) d hd, by simp only [VR]⟩
        rw [hcell _ (by omega)]
        have h1 : ((xs.drop off).take len)[i]? = (ns.map (Value.int .u8))[i]? := by rw [hns]
        rw [List.getElem?_take_of_lt hi, List.getElem?_drop] at h1
        rw [h1, List.getElem?_map]
        have : i < ns.length := by omega
        simp [List.getD, List.getElem?_eq_getElem this]
      · simp at hv
    · simp at hv
  · exact lits1_sound ha hv

def aread (P : Program) (K : Fix) (S : St) (A : Operand → Option AVal) (o : Oper) : Option AVal :=
  match o.op with
  | .move x => A x
  | .assign x => A x
  | .pick c p q => match A c with
    | some (.lit (.bool true)) => A p
    | some (.lit (.bool false)) => A q
    | _ => none
  | .build t parts => (aparts A parts.toList).bind (abuild P t)
  | .load t x => (A x).bind (aload P K S t)
  | .nilCheck x => (A x).bind anil
  | .binOp op t x y _ => match A x, A y with
    | some p, some q => abin P op t x y p q
    | _, _ => none
  | .unOp op _ x => (A x).bind fun a => lits1 P a (Op.unary op)
  | .convert s d x => (A x).bind fun a => aconvert P S s d a
  | .makeInterface t x => (A x).bind (aiface P t)
  | .makeFunc fn p q => match aargs A p.toList, aargs A q.toList with
    | some p, some q => some (.func fn p q)
    | _, _ => none
  | .slice t x lo hi mx => match A x, aopt A lo, aopt A hi, aopt A mx with
    | some a, some lo, some hi, some mx => aslice P S t a lo hi mx
    | _, _, _, _ => none
  | .fieldAddr s x f => (A x).bind fun a => afieldAt P s a f
  | .field t x f => (A x).bind fun a => afield P t a f
  | .indexAddr t x i => match A x, A i with
    | some p, some q => aindexAt P t p q
    | _, _ => none
  | .index t x i => match A x, A i with
    | some p, some q => aindex P t p q
    | _, _ => none
  | .lookup t x i ok => match A x, A i with
    | some p, some q => alookup P S t p q ok
    | _, _ => none
  | .typeAssert x xt t ok => (A x).bind fun a => aassert P a xt t ok
  | .extract x i => (A x).bind fun a => aextract P a i
  | .call { callee := .builtin b, args, argTypes } => (aargs A args.toList).bind (abuiltin P S b argTypes o.type (args.map constArg))
  | _ => none

theorem aread_sound {A : Operand → Option AVal} {ρ : Operand → Value} {o : Oper} (h : Ok K E S X w) (hA : EvR E A ρ) (hv : aread P K S A o = some v) :
    ∃ y, (execOp ρ o).run P w = .ok (.value y) w ∧ VR E v y := by
  obtain ⟨dst, op, type, pos, after, guard⟩ := o
  unfold aread at hv
  simp only at hv
  split at hv
  · exact ⟨_, by simp [execOp], hA _ _ hv⟩
  · exact ⟨_, by simp [execOp], hA _ _ hv⟩
  · rename_i c p q
    split at hv
    · rename_i hc
      have := hA _ _ hc; simp only [VR] at this
      exact ⟨_, by simp [execOp, this, asBool], hA _ _ hv⟩
    · rename_i hc
      have := hA _ _ hc; simp only [VR] at this
      exact ⟨_, by simp [execOp, this, asBool], hA _ _ hv⟩
    · simp at hv
  · rename_i t parts
    simp only [Option.bind_eq_some_iff] at hv
    obtain ⟨ps, hps, hv⟩ := hv
    obtain ⟨y, h1, h2⟩ := abuild_sound (w := w) (aparts_sound hA hps) hv
    refine ⟨y, ?_, h2⟩
    have e : (parts.map fun x => match x with | (i, x) => (i, ρ x)) = (parts.toList.map fun p => (p.1, ρ p.2)).toArray := by simp [← Array.toList_map]
    simp [execOp, e, h1]
  · simp only [Option.bind_eq_some_iff] at hv
    obtain ⟨p, hp, hv⟩ := hv
    obtain ⟨y, h1, h2⟩ := aload_sound h (hA _ _ hp) hv
    exact ⟨y, by simp [execOp, h1], h2⟩
  · rename_i x
    simp only [Option.bind_eq_some_iff] at hv
    obtain ⟨p, hp, hv⟩ := hv
    have hr := hA _ _ hp
    generalize hx : ρ x = z at hr
    unfold anil at hv
    split at hv <;> (try simp only [Option.some.injEq] at hv) <;> (try subst hv)
    · refine ⟨z, ?_, hr⟩
      simp only [VR] at hr; obtain ⟨c, _, rfl⟩ := hr; simp [execOp, hx]
    · refine ⟨z, ?_, hr⟩
      simp only [VR] at hr; obtain ⟨c, _, rfl⟩ := hr; simp [execOp, hx]
    · refine ⟨z, ?_, hr⟩
      simp only [VR] at hr; obtain ⟨c, k, _, _, rfl⟩ := hr; simp [execOp, hx]
    · refine ⟨z, ?_, hr⟩
      simp only [VR] at hr; obtain ⟨c, k, _, _, rfl⟩ := hr; simp [execOp, hx]
    · refine ⟨z, ?_, hr⟩
      simp only [VR] at hr; subst hr; simp [execOp, hx]
    · refine ⟨z, ?_, hr⟩
      simp only [VR] at hr; subst hr; simp [execOp, hx]
    · refine ⟨z, ?_, hr⟩
      simp only [VR] at hr; obtain ⟨c, _, rfl⟩ := hr; simp [execOp, hx]
    · simp at hv
  · split at hv
    · rename_i p q hp hq
      obtain ⟨y, h1, h2⟩ := abin_sound (w := w) (hA _ _ hp) (hA _ _ hq) hv
      refine ⟨y, ?_, h2⟩
      simp only [execOp]
      rw [Sem.run_bind, h1]; rfl
    · simp at hv
  · simp only [Option.bind_eq_some_iff] at hv
    obtain ⟨p, hp, hv⟩ := hv
    obtain ⟨y, h1, h2⟩ := lits1_sound (w := w) (hA _ _ hp) hv
    exact ⟨y, by simp [execOp, h1], h2⟩
  · simp only [Option.bind_eq_some_iff] at hv
    obtain ⟨p, hp, hv⟩ := hv
    obtain ⟨y, h1, h2⟩ := aconvert_sound h (hA _ _ hp) hv
    exact ⟨y, by simp [execOp, h1], h2⟩
  · simp only [Option.bind_eq_some_iff] at hv
    obtain ⟨p, hp, hv⟩ := hv
    obtain ⟨y, h1, h2⟩ := aiface_sound (w := w) (hA _ _ hp) hv
    exact ⟨y, by simp [execOp, h1], h2⟩
  · rename_i fn p q
    split at hv
    · rename_i us vs hp hq
      simp only [Option.some.injEq] at hv; subst hv
      refine ⟨.func fn (p.map ρ) (q.map ρ), by simp [execOp, Instr.makeFunc], ?_⟩
      simp only [VR]
      exact ⟨_, _, aargs_sound hA hp, aargs_sound hA hq, by simp [← Array.toList_map]⟩
    · simp at hv
  · split at hv
    · rename_i a lo hi mx h0 h1 h2 h3
      obtain ⟨y, g1, g2⟩ := aslice_sound h (hA _ _ h0) (aopt_sound hA h1) (aopt_sound hA h2) (aopt_sound hA h3) hv
      exact ⟨y, by simp [execOp, g1], g2⟩
    · simp at hv
  · simp only [Option.bind_eq_some_iff] at hv
    obtain ⟨p, hp, hv⟩ := hv
    obtain ⟨y, h1, h2⟩ := afieldAt_sound (w := w) (hA _ _ hp) hv
    exact ⟨y, by simp [execOp, h1], h2⟩
  · simp only [Option.bind_eq_some_iff] at hv
    obtain ⟨p, hp, hv⟩ := hv
    obtain ⟨y, h1, h2⟩ := afield_sound (w := w) (hA _ _ hp) hv
    exact ⟨y, by simp [execOp, h1], h2⟩
  · split at hv
    · rename_i p q hp hq
      obtain ⟨y, h1, h2⟩ := aindexAt_sound (w := w) (hA _ _ hp) (hA _ _ hq) hv
      exact ⟨y, by simp [execOp, h1], h2⟩
    · simp at hv
  · split at hv
    · rename_i p q hp hq
      obtain ⟨y, h1, h2⟩ := aindex_sound (w := w) (hA _ _ hp) (hA _ _ hq) hv
      exact ⟨y, by simp [execOp, h1], h2⟩
    · simp at hv
  · split at hv
    · rename_i p q hp hq
      obtain ⟨y, h1, h2⟩ := alookup_sound h (hA _ _ hp) (hA _ _ hq) hv
      exact ⟨y, by simp [execOp, h1], h2⟩
    · simp at hv
  · simp only [Option.bind_eq_some_iff] at hv
    obtain ⟨p, hp, hv⟩ := hv
    obtain ⟨y, h1, h2⟩ := aassert_sound (w := w) (hA _ _ hp) hv
    exact ⟨y, by simp [execOp, h1], h2⟩
  · simp only [Option.bind_eq_some_iff] at hv
    obtain ⟨p, hp, hv⟩ := hv
    obtain ⟨y, h1, h2⟩ := aextract_sound (w := w) (hA _ _ hp) hv
    exact ⟨y, by simp [execOp, h1], h2⟩
  · rename_i bi args ats
    simp only [Option.bind_eq_some_iff] at hv
    obtain ⟨vs, hvs, hv⟩ := hv
    obtain ⟨y, h1, h2⟩ := abuiltin_sound h (aargs_sound hA hvs) hv
    refine ⟨y, ?_, h2⟩
    have e : (args.toList.map ρ).toArray = args.map ρ := by simp [← Array.toList_map]
    rw [e] at h1
    simp [execOp, resolve, invoke]
    exact h1
  · simp at hv

end Go.Eng

namespace Go.Eng
open Go.RowKit

variable {P : Program} {K : Fix} {E F : Env} {S S' : St} {X : List (List Value)} {w w' : World} {a b v : AVal} {x y : Value} {t s : TypeId} {l r : List AVal} {xs : List Value} {i j n off f : Nat}

/-! ### What turns the memory -/

theorem Ok.alloc {o : AObj} {u : Obj} (h : Ok K E S X w) (ho : OR E o u) :
    ∃ E', E.Le E' ∧ E'.rho S.heap.length = some w.heap.size ∧ Ok K E' { S with heap := S.heap ++ [o] } X { w with heap := w.heap.push u } := by
  have hnone : E.rho S.heap.length = none := by
    cases hr : E.rho S.heap.length with
    | none => rfl
    | some c => have := h.dom S.heap.length (by simp [hr]); omega
  have hle : E.Le { E with rho := fun b => if b = S.heap.length then some w.heap.size else E.rho b } := by
    refine ⟨fun b c hb => ?_, fun _ _ hk => hk⟩
    have : b ≠ S.heap.length := by rintro rfl; rw [hnone] at hb; cases hb
    simpa [this] using hb
  refine ⟨_, hle, by simp, ?_⟩
  constructor
  · intro b hb
    simp only [List.length_append, List.length_singleton]
    simp only at hb
    split at hb
    · omega
    · have := h.dom b hb; omega
  · intro b o' hb
    by_cases hbl : b = S.heap.length
    · subst hbl
      simp at hb; subst hb
      exact ⟨w.heap.size, u, by simp, h.base, by simp, OR.mono hle _ _ ho⟩
    · have hb' : S.heap[b]? = some o' := by
        rw [List.getElem?_append] at hb
        split at hb
        · exact hb
        · rename_i hlt
          have : b - S.heap.length = (b - S.heap.length - 1) + 1 := by omega
          rw [this] at hb; simp at hb
      obtain ⟨c, x, h1, h2, h3, h4⟩ := h.obj b o' hb'
      refine ⟨c, x, by simp [hbl, h1], h2, ?_, OR.mono hle _ _ h4⟩
      have := (Array.getElem?_eq_some_iff.1 h3).1
      simp only [Array.getElem?_push]
      rw [if_neg (by omega)]; exact h3
  · intro b b' c hb hb'
    simp only at hb hb'
    split at hb
    · rename_i e1
      simp only [Option.some.injEq] at hb; subst hb
      split at hb'
      · rename_i e2; rw [e1, e2]
      · have := h.lt hb'; omega
    · split at hb'
      · simp only [Option.some.injEq] at hb'; subst hb'
        have := h.lt hb; omega
      · exact h.inj b b' c hb hb'
  · exact h.kdom
  · exact h.lb
  · exact ⟨h.below.os, h.below.tape, h.below.output, by have := h.below.size; simp; omega, fun k hk => by
      have hb := h.base
      simp only [Array.getElem?_push]
      rw [if_neg (by omega)]; exact h.below.block k hk⟩
  · have := h.base; simp; omega
  · exact SR.mono hle _ _ h.stk

theorem Ok.put {b c : Nat} {o : AObj} {u : Obj} (h : Ok K E S X w) (hb : E.rho b = some c) (ho : OR E o u) :
    Ok K E { S with heap := S.heap.set b o } X { w with heap := w.heap.setIfInBounds c u } := by
  have hlt := h.dom b (by simp [hb])
  obtain ⟨c', x, h1, h2, h3, h4⟩ := h.obj b S.heap[b] (by simp [hlt])
  rw [hb] at h1; obtain rfl := Option.some.inj h1
  have hcl := h.lt hb
  constructor
  · intro b' hb'; simp only [List.length_set]; exact h.dom b' hb'
  · intro b' o' hb'
    by_cases e : b = b'
    · subst e
      simp [hlt] at hb'; subst hb'
      exact ⟨c, u, hb, h2, by simp [hcl], ho⟩
    · simp only at hb'
      rw [List.getElem?_set_ne e] at hb'
      obtain ⟨d, z, g1, g2, g3, g4⟩ := h.obj b' o' hb'
      refine ⟨d, z, g1, g2, ?_, g4⟩
      have : c ≠ d := by rintro rfl; exact e (h.inj _ _ _ hb g1)
      simp only [Array.getElem?_setIfInBounds]
      rw [if_neg this]; exact g3
  · exact h.inj
  · exact h.kdom
  · exact h.lb
  · exact ⟨h.below.os, h.below.tape, h.below.output, by have := h.below.size; simpa using this, fun k hk => by
      simp only [Array.getElem?_setIfInBounds]
      rw [if_neg (by omega)]; exact h.below.block k hk⟩
  · simpa using h.base
  · exact h.stk

/-- A draw turns nothing. -/
theorem Ok.drawn (h : Ok K E S X w) (d : Nat) : Ok K E S X { w with drawn := d } :=
  ⟨h.dom, h.obj, h.inj, h.kdom, h.lb, ⟨h.below.os, h.below.tape, h.below.output, h.below.size, h.below.block⟩, h.base, h.stk⟩

/-- A capacity of its own. -/
theorem Ok.newcap {m k : Nat} (h : Ok K E S X w) (hm : m ≤ k) (hk : k ≤ 9223372036854775807) :
    ∃ E', E.Le E' ∧ E'.kap S.caps.length = some k ∧ (∀ b, E'.rho b = E.rho b) ∧ Ok K E' { S with caps := S.caps ++ [m] } X w := by
  have hnone : E.kap S.caps.length = none := by
    cases hr : E.kap S.caps.length with
    | none => rfl
    | some c => have := h.kdom S.caps.length (by simp [hr]); omega
  have hle : E.Le { E with kap := fun q => if q = S.caps.length then some k else E.kap q } := by
    refine ⟨fun _ _ hk => hk, fun b c hb => ?_⟩
    have : b ≠ S.caps.length := by rintro rfl; rw [hnone] at hb; cases hb
    simpa [this] using hb
  refine ⟨_, hle, by simp, fun _ => rfl, ?_⟩
  constructor
  · exact h.dom
  · intro b o hb
    obtain ⟨c, x, h1, h2, h3, h4⟩ := h.obj b o hb
    exact ⟨c, x, h1, h2, h3, OR.mono hle _ _ h4⟩
  · exact h.inj
  · intro q hq
    simp only [List.length_append, List.length_singleton]
    simp only at hq
    split at hq
    · omega
    · have := h.kdom q hq; omega
  · intro q l hq
    by_cases e : q = S.caps.length
    · subst e
      simp at hq; subst hq
      exact ⟨k, by simp, hm, hk⟩
    · have hq' : S.caps[q]? = some l := by
        simp only at hq
        rw [List.getElem?_append] at hq
        split at hq
        · exact hq
        · have : q - S.caps.length = (q - S.caps.length - 1) + 1 := by omega
          rw [this] at hq; simp at hq
      obtain ⟨n, g1, g2⟩ := h.lb q l hq'
      exact ⟨n, by simpa [e] using g1, g2⟩
  · exact h.below
  · exact h.base
  · exact SR.mono hle _ _ h.stk

/-- More is known of a capacity. -/
theorem Ok.raise {q m k : Nat} (h : Ok K E S X w) (hq : E.kap q = some k) (hm : m ≤ k) : Ok K E { S with caps := S.caps.set q m } X w := by
  refine ⟨h.dom, h.obj, h.inj, fun q' hq' => by simpa using h.kdom q' hq', fun q' l hl => ?_, h.below, h.base, h.stk⟩
  simp only at hl
  by_cases e : q = q'
  · subst e
    have := h.kdom q (by simp [hq])
    simp [this] at hl; subst hl
    obtain ⟨n, g1, _, g3⟩ := h.lb q S.caps[q] (by simp [this])
    rw [hq] at g1; obtain rfl := Option.some.inj g1
    exact ⟨k, hq, hm, g3⟩
  · rw [List.getElem?_set_ne e] at hl
    exact h.lb q' l hl

theorem setCell_cells {c i : Nat} {cs : Array Value} {e : TypeId} {fz : Nat × Nat} (h : w.heap[c]? = some (.cells cs e fz)) (x : Value) :
    w.setCell ⟨c, i, none⟩ x = { w with heap := w.heap.setIfInBounds c (.cells (cs.setIfInBounds i x) e fz) } := by
  have hlt := (Array.getElem?_eq_some_iff.1 h).1
  have hge := (Array.getElem?_eq_some_iff.1 h).2
  unfold World.setCell
  congr 1
  apply Array.ext_getElem?
  intro k
  rw [Array.getElem?_modify, Array.getElem?_setIfInBounds]
  by_cases e : c = k
  · subst e; simp [hlt, hge]
  · simp [e]

def AVal.one : AVal → Bool
  | .lit v => v.oneCell'
  | .agg _ => false
  | .tuple _ => false
  | _ => true

theorem VR.one (h : VR E a x) (ho : a.one = true) : x.oneCell' = true := by
  cases a <;> simp only [AVal.one] at ho <;> simp only [VR] at h
  · subst h; exact ho
  · obtain ⟨c, _, rfl⟩ := h; rfl
  · obtain ⟨c, k, _, _, rfl⟩ := h; rfl
  · obtain ⟨c, _, rfl⟩ := h; rfl
  · obtain ⟨c, k, _, _, rfl⟩ := h; rfl
  · obtain ⟨c, _, rfl⟩ := h; rfl
  · cases ho
  · cases ho

/-- One cell is stored. -/
def astore1 (S : St) (b off : Nat) (v : AVal) : Option St :=
  match S.heap[b]? with
  | some (.cells l e fz op) =>
    if off < l.length ∧ v.one = true ∧ (fz.1 ≤ off && off < fz.2) = false then some { S with heap := S.heap.set b (.cells (l.set off v) e fz op) } else none
  | _ => none

theorem astore1_sound {b c off : Nat} {m : Mode} (h : Ok K E S X w) (hb : E.rho b = some c) (hx : VR E v x) (hs : astore1 S b off v = some S') :
    ∃ w', (store ⟨c, off, none⟩ x m).run P w = .ok () w' ∧ Ok K E S' X w' := by
  unfold astore1 at hs
  split at hs
  · rename_i l e fz op ho
    split at hs
    · rename_i hh
      obtain ⟨g1, g2, g3⟩ := hh
      simp only [Option.some.injEq] at hs; subst hs
      obtain ⟨c', u, h1, h2, h3, h4⟩ := h.obj b _ ho
      rw [hb] at h1; obtain rfl := Option.some.inj h1
      have hone := hx.one g2
      match op, h4 with
      | none, h4 =>
        obtain ⟨xs, r, rfl⟩ := h4
        have hlen := r.length
        refine ⟨_, ?_, h.put (o := .cells (l.set off v) e fz none) (u := .cells (xs.set off x).toArray e fz) hb ⟨_, r.set hx, rfl⟩⟩
        have hc : w.cell? ⟨c, off, none⟩ = some xs[off] := by simp [World.cell?, h3]
        have hf : w.frozen? ⟨c, off, none⟩ = false := by simp only [World.frozen?, h3]; exact g3
        rw [run_store _ _ _ _ _ hone, hc]
        simp only [hf, setCell_cells h3]
        simp
      | some (q, sz), h4 =>
        obtain ⟨xs, tl, nn, r, k1, k2, rfl⟩ := h4
        have hlen := r.length
        refine ⟨_, ?_, h.put (o := .cells (l.set off v) e fz (some (q, sz))) (u := .cells (xs.set off x ++ tl).toArray e fz) hb ⟨_, tl, nn, r.set hx, k1, by simpa using k2, rfl⟩⟩
        have hlt : off < xs.length := by omega
        have hc : w.cell? ⟨c, off, none⟩ = some xs[off] := by simp [World.cell?, h3, List.getElem?_append_left hlt]
        have hf : w.frozen? ⟨c, off, none⟩ = false := by simp only [World.frozen?, h3]; exact g3
        rw [run_store _ _ _ _ _ hone, hc]
        simp only [hf, setCell_cells h3]
        simp [hlt]
    · simp at hs
  · simp at hs

def astores (S : St) (b off : Nat) : List AVal → Option St
  | [] => some S
  | v :: vs => (astore1 S b off v).bind fun S => astores S b (off + 1) vs

theorem astores_sound {b c : Nat} : ∀ {vs : List AVal} {xs : List Value} {off i : Nat} {S S' : St} {w : World}, Ok K E S X w → E.rho b = some c → VRs E vs xs → astores S b (off + i) vs = some S' →
    ∃ w', (storeCells ⟨c, off, none⟩ xs i).run P w = .ok () w' ∧ Ok K E S' X w'
  | [], xs, off, i, S, S', w, h, hb, hx, hs => by
    simp only [VRs] at hx; subst hx
    simp only [astores, Option.some.injEq] at hs; subst hs
    exact ⟨w, rfl, h⟩
  | v :: vs, xs, off, i, S, S', w, h, hb, hx, hs => by
    simp only [VRs] at hx; obtain ⟨x, r, h1, h2, rfl⟩ := hx
    simp only [astores, Option.bind_eq_some_iff] at hs
    obtain ⟨S1, e1, e2⟩ := hs
    obtain ⟨w1, g1, g2⟩ := astore1_sound (P := P) (m := .plain) h hb h1 e1
    obtain ⟨w2, k1, k2⟩ := astores_sound (i := i + 1) (off := off) g2 hb h2 (by rw [← Nat.add_assoc]; exact e2)
    refine ⟨w2, ?_, k2⟩
    simp only [storeCells, Sem.run_bind, add_plain, g1, Result.andThen_ok, k1]

theorem set_self {α : Type} : ∀ {l : List α} {i : Nat} {x : α}, l[i]? = some x → l.set i x = l
  | [], i, x, h => by simp at h
  | y :: l, 0, x, h => by simp at h; subst h; rfl
  | y :: l, i + 1, x, h => by simp only [List.getElem?_cons_succ] at h; simp only [List.set_cons_succ, set_self h]

/-- Stores in a row, at once. -/
theorem astores_row {b : Nat} {e : TypeId} {op : Option (Nat × Nat)} : ∀ {vs l : List AVal} {off : Nat} {S : St}, S.heap[b]? = some (.cells l e (0, 0) op) → off + vs.length ≤ l.length → vs.all AVal.one = true →
    astores S b off vs = some { S with heap := S.heap.set b (.cells (l.take off ++ (vs ++ l.drop (off + vs.length))) e (0, 0) op) }
  | [], l, off, S, h, hl, ho => by
    simp only [astores, List.nil_append, List.length_nil, Nat.add_zero, List.take_append_drop, set_self h]
  | v :: vs, l, off, S, h, hl, ho => by
    simp only [List.length_cons] at hl
    simp only [List.all_cons, Bool.and_eq_true] at ho
    have hb : b < S.heap.length := (List.getElem?_eq_some_iff.1 h).1
    have h1 : astore1 S b off v = some { S with heap := S.heap.set b (.cells (l.set off v) e (0, 0) op) } := by
      unfold astore1
      rw [h]
      simp only
      rw [if_pos ⟨by omega, ho.1, by simp⟩]
    simp only [astores, h1, Option.bind_some]
    rw [astores_row (e := e) (op := op) (S := { S with heap := S.heap.set b (.cells (l.set off v) e (0, 0) op) }) (l := l.set off v) (off := off + 1) (by simp [hb]) (by simp; omega) ho.2]
    have e1 : (l.set off v).take (off + 1) = l.take off ++ [v] := by
      rw [List.take_add_one, List.take_set_of_le (Nat.le_refl _), List.getElem?_set_self (by omega)]; rfl
    have e2 : (l.set off v).drop (off + 1 + vs.length) = l.drop (off + 1 + vs.length) := List.drop_set_of_lt (by omega)
    simp only [List.set_set, e1, e2, List.length_cons, List.append_assoc, List.cons_append, List.nil_append]
    rw [show off + 1 + vs.length = off + (vs.length + 1) by omega]

def astoresB (S : St) (b off : Nat) (vs : List AVal) : Option St :=
  match S.heap[b]? with
  | some (.cells l e (0, 0) op) => if off + vs.length ≤ l.length ∧ vs.all AVal.one = true then some { S with heap := S.heap.set b (.cells (l.take off ++ (vs ++ l.drop (off + vs.length))) e (0, 0) op) } else none
  | _ => astores S b off vs

theorem astoresB_eq {b off : Nat} {vs : List AVal} (h : astoresB S b off vs = some S') : astores S b off vs = some S' := by
  unfold astoresB at h
  split at h
  · rename_i l e op ho
    split at h
    · rename_i hc
      rw [astores_row ho hc.1 hc.2]; exact h
    · simp at h
  · exact h

/-- A variable is stored. -/
def astoreAt (P : Program) (S : St) (t : TypeId) (a v : AVal) : Option St :=
  match a, P.info? t with
  | .ptr b off, some i => if v.cells.length = i.size then astoresB S b off v.cells else none
  | _, _ => none

theorem astoreAt_sound {p : Value} (h : Ok K E S X w) (ha : VR E a p) (hx : VR E v x) (hs : astoreAt P S t a v = some S') :
    ∃ w', (Instr.storeAt t p x).run P w = .ok () w' ∧ Ok K E S' X w' := by
  unfold astoreAt at hs
  split at hs
  · rename_i b off i hi
    simp only [VR] at ha; obtain ⟨c, hc, rfl⟩ := ha
    split at hs
    · rename_i hl
      have hcs := hx.cells
      have hlen := hcs.length
      obtain ⟨w', g1, g2⟩ := astores_sound (P := P) (off := off) (i := 0) h hc hcs (by simpa using astoresB_eq hs)
      refine ⟨w', ?_, g2⟩
      have : x.cells.size = i.size := by rw [← hl, hlen]; simp
      simp [Instr.storeAt, Instr.sureAddr, storeVar, run_sizeOf' hi, this, g1]
    · simp at hs
  · simp at hs

/-- A new block. -/
def anew (S : St) (o : AObj) : St := { S with heap := S.heap ++ [o] }

theorem anew_sound {o : AObj} {u : Obj} (h : Ok K E S X w) (ho : OR E o u) :
    ∃ E' w', (newObj u).run P w = .ok w.heap.size w' ∧ E.Le E' ∧ E'.rho S.heap.length = some w.heap.size ∧ Ok K E' (anew S o) X w' := by
  obtain ⟨E', g1, g2, g3⟩ := h.alloc ho
  exact ⟨E', _, rfl, g1, g2, g3⟩

end Go.Eng

namespace Go.Eng
open Go.RowKit

variable {P : Program} {K : Fix} {E F : Env} {S S' : St} {X : List (List Value)} {w w' : World} {a b v : AVal} {x y : Value} {t s : TypeId} {l r : List AVal} {xs : List Value} {i j n off f : Nat}

/-- One of the outcomes is what comes. -/
def Gives (P : Program) (K : Fix) (E : Env) (X : List (List Value)) (s : Sem Next) (w : World) (outs : List (AVal × St)) : Prop :=
  ∃ v S' y w' E', (v, S') ∈ outs ∧ (s.run P w = .ok (.value y) w' ∨ (y = undef ∧ s.run P w = .ok .skip w')) ∧ VR E' v y ∧ Ok K E' S' X w' ∧ E.Le E'

def uv : AVal := .lit undef

theorem run_setObj_map {m : Nat} {es : Array MapEntry} {c : Nat} {o : Obj} (h : w.heap[m]? = some (.map es c)) : (setObj m o).run P w = .ok () { w with heap := w.heap.setIfInBounds m o } := by
  simp [setObj, Sem.run, h]

theorem Ok.mapAt {m c : Nat} {es : List AEnt} {clock : Nat} (h : Ok K E S X w) (hm : E.rho m = some c) (ho : S.heap[m]? = some (.map es clock)) :
    ∃ ms, ER E es ms ∧ w.heap[c]? = some (.map ms.toArray clock) := by
  obtain ⟨c', u, h1, _, h3, h4⟩ := h.obj m _ ho
  rw [hm] at h1; obtain rfl := Option.some.inj h1
  obtain ⟨ms, g1, rfl⟩ := h4
  exact ⟨ms, g1, h3⟩

theorem ER.push {es : List AEnt} {ms : List MapEntry} {k : AVal} {u z : Value} {bn : Nat} (h : ER E es ms) (hk : VR E k u) (hv : VR E v z) :
    ER E (es ++ [⟨k, v, bn⟩]) (ms ++ [{ key := u, val := z, born := bn }]) := by
  induction es generalizing ms with
  | nil => simp only [ER] at h; subst h; simp only [List.nil_append, ER]; exact ⟨_, _, hk, hv, rfl, rfl, rfl⟩
  | cons e es ih =>
    simp only [ER] at h; obtain ⟨m, r, h1, h2, h3, h4, rfl⟩ := h
    simp only [List.cons_append, ER]; exact ⟨m, _, h1, h2, h3, ih h4, rfl⟩

theorem ER.modify {es : List AEnt} {ms : List MapEntry} {k : AVal} {u z : Value} (h : ER E es ms) (hk : VR E k u) (hv : VR E v z) (i : Nat) :
    ER E (es.modify i fun e => { e with key := k, val := v }) (ms.modify i fun e => { e with key := u, val := z }) := by
  induction es generalizing ms i with
  | nil => simp only [ER] at h; subst h; simp [ER]
  | cons e es ih =>
    simp only [ER] at h; obtain ⟨m, r, h1, h2, h3, h4, rfl⟩ := h
    cases i with
    | zero => simp only [List.modify_zero_cons, ER]; exact ⟨{ m with key := u, val := z }, r, hk, hv, h3, h4, rfl⟩
    | succ i => simp only [List.modify_succ_cons, ER]; exact ⟨_, _, h1, h2, h3, ih h4 i, rfl⟩

theorem ER.erase {es : List AEnt} {ms : List MapEntry} (h : ER E es ms) (i : Nat) : ER E (es.eraseIdx i) (ms.eraseIdx i) := by
  induction es generalizing ms i with
  | nil => simp only [ER] at h; subst h; simp [ER]
  | cons e es ih =>
    simp only [ER] at h; obtain ⟨m, r, h1, h2, h3, h4, rfl⟩ := h
    cases i with
    | zero => simpa using h4
    | succ i => simp only [List.eraseIdx_cons_succ, ER]; exact ⟨_, _, h1, h2, h3, ih h4 i, rfl⟩

theorem ER.get {es : List AEnt} {ms : List MapEntry} {e : AEnt} {i : Nat} (h : ER E es ms) (he : es[i]? = some e) : ∃ m, ms[i]? = some m ∧ VR E e.key m.key ∧ VR E e.val m.val ∧ m.born = e.born := by
  induction es generalizing ms i with
  | nil => simp at he
  | cons d es ih =>
    simp only [ER] at h; obtain ⟨m, r, h1, h2, h3, h4, rfl⟩ := h
    cases i with
    | zero => simp at he; subst he; exact ⟨m, by simp, h1, h2, h3⟩
    | succ i => simp at he; simpa using ih h4 he

/-- Where a key stands in a map that has a name: none, where it can't be said. -/
def aseek (P : Program) (S : St) (t : TypeId) (m : Nat) (kv : Value) : Option (List AEnt × Nat × Option (Nat × AVal)) :=
  match P.underlying t, S.heap[m]? with
  | some (.map kt _), some (.map es clock) =>
    match P.underlying kt with
    | none => none
    | some d =>
      match still P (Instr.checkKey false 10000 kt kv), still P (Instr.checkKey es.isEmpty 10000 kt kv), afind d kv es 0 with
      | some _, some _, some r => some (es, clock, r)
      | _, _, _ => none
  | _, _ => none

theorem aseek_sound {m c : Nat} {kv : Value} {es : List AEnt} {clock : Nat} {r : Option (Nat × AVal)} (h : Ok K E S X w) (hm : E.rho m = some c) (hs : aseek P S t m kv = some (es, clock, r)) :
    ∃ kt et ms, P.underlying t = some (.map kt et) ∧ S.heap[m]? = some (.map es clock) ∧ ER E es ms ∧ w.heap[c]? = some (.map ms.toArray clock) ∧
      (∀ w', (Instr.checkKey false 10000 kt kv).run P w' = .ok () w') ∧ (∀ w', (Instr.checkKey ms.toArray.isEmpty 10000 kt kv).run P w' = .ok () w') ∧
      match r with
      | none => ∀ w', (Instr.findKey kt kv ms).run P w' = .ok none w'
      | some (j, v) => ∃ x, (∀ w', (Instr.findKey kt kv ms).run P w' = .ok (some (j, x)) w') ∧ VR E v x ∧ j < es.length := by
  unfold aseek at hs
  split at hs
  · rename_i kt et es' clock' hu ho
    split at hs
    · simp at hs
    · rename_i d hd
      split at hs
      · rename_i r1 r2 rr c1 c2 hf
        simp only [Option.some.injEq, Prod.mk.injEq] at hs
        obtain ⟨rfl, rfl, rfl⟩ := hs
        obtain ⟨ms, g1, g2⟩ := h.mapAt hm ho
        refine ⟨kt, et, ms, hu, ho, g1, g2, still_run c1, by rw [g1.isEmpty]; exact still_run c2, ?_⟩
        have := afind_sound g1 hf
        cases rr with
        | none => simp only at this ⊢; intro w'; simp only [Instr.findKey, Sem.run_bind, run_underlying' hd, Result.andThen_ok, this, Sem.run_pure]
        | some p =>
          obtain ⟨x, t1, t2, t3, t4⟩ := this
          exact ⟨x, fun w' => by simp only [Instr.findKey, Sem.run_bind, run_underlying' hd, Result.andThen_ok, t1, Sem.run_pure], t2, by omega⟩
      · simp at hs
  · simp at hs

def aupdate (P : Program) (S : St) (t : TypeId) (a k v : AVal) : Option St :=
  match a, k with
  | .map m, .lit kv =>
    match aseek P S t m kv with
    | some (es, clock, none) => some { S with heap := S.heap.set m (.map (es ++ [⟨.lit kv, v, clock⟩]) (clock + 1)) }
    | some (es, clock, some (i, _)) =>
      match es[i]? with
      | some ⟨.lit old, _, _⟩ => if Instr.sameBits 10000 old kv = true then some { S with heap := S.heap.set m (.map (es.modify i fun e => { e with key := .lit kv, val := v }) clock) } else none
      | _ => none
    | none => none
  | _, _ => none

theorem aupdate_sound {k : AVal} {p q : Value} (h : Ok K E S X w) (ha : VR E a p) (hk : VR E k q) (hv : VR E v x) (hs : aupdate P S t a k v = some S') :
    ∃ w', (Instr.mapUpdate t p q x).run P w = .ok () w' ∧ Ok K E S' X w' := by
  unfold aupdate at hs
  split at hs
  · rename_i m kv
    simp only [VR] at ha hk; obtain ⟨c, hc, rfl⟩ := ha; subst hk
    split at hs
    · rename_i es clock hsk
      simp only [Option.some.injEq] at hs; subst hs
      obtain ⟨kt, et, ms, hu, ho, g1, g2, g3, g4, g5⟩ := aseek_sound h hc hsk
      simp only at g5
      refine ⟨_, ?_, h.put (o := .map (es ++ [⟨.lit q, v, clock⟩]) (clock + 1)) (u := .map (ms ++ [(⟨q, x, clock⟩ : MapEntry)]).toArray (clock + 1)) hc ⟨_, g1.push (k := .lit q) (u := q) (by simp only [VR]) hv, rfl⟩⟩
      simp [Instr.mapUpdate, run_underlying' hu, run_getObj_map g2, g3, g5, run_setObj_map g2]
    · rename_i es clock i vv hsk
      obtain ⟨kt, et, ms, hu, ho, g1, g2, g3, g4, x', g5, g6, g7⟩ := aseek_sound h hc hsk
      split at hs
      · rename_i old v0 b0 he
        split at hs
        · rename_i hsame
          simp only [Option.some.injEq] at hs; subst hs
          obtain ⟨mm, k1, k2, k3, k4⟩ := g1.get he
          simp only [VR] at k2
          refine ⟨_, ?_, h.put (o := .map (es.modify i fun e => { e with key := .lit q, val := v }) clock) (u := .map (ms.modify i fun e => { e with key := q, val := x }).toArray clock) hc ⟨_, g1.modify (k := .lit q) (u := q) (by simp only [VR]) hv i, rfl⟩⟩
          simp [Instr.mapUpdate, run_underlying' hu, run_getObj_map g2, g3, g5, k1, k2, Instr.keyThatStays, hsame, run_setObj_map g2]
        · simp at hs
      · simp at hs
    · simp at hs
  · simp at hs

def adelete (P : Program) (S : St) (t : TypeId) (a k : AVal) : Option St :=
  match a, k with
  | .map m, .lit kv =>
    match aseek P S t m kv with
    | some (es, clock, none) => some { S with heap := S.heap.set m (.map es clock) }
    | some (es, clock, some (i, _)) => some { S with heap := S.heap.set m (.map (es.eraseIdx i) clock) }
    | none => none
  | _, _ => none

theorem adelete_sound {k : AVal} {p q : Value} {ty : TypeId} (h : Ok K E S X w) (ha : VR E a p) (hk : VR E k q) (hs : adelete P S t a k = some S') :
    ∃ w', (Builtin.delete_ #[t, s] ty #[p, q]).run P w = .ok (.tuple #[]) w' ∧ Ok K E S' X w' := by
  unfold adelete at hs
  split at hs
  · rename_i m kv
    simp only [VR] at ha hk; obtain ⟨c, hc, rfl⟩ := ha; subst hk
    split at hs
    · rename_i es clock hsk
      simp only [Option.some.injEq] at hs; subst hs
      obtain ⟨kt, et, ms, hu, ho, g1, g2, g3, g4, g5⟩ := aseek_sound h hc hsk
      simp only at g5
      refine ⟨_, ?_, h.put (o := .map es clock) (u := .map ms.toArray clock) hc ⟨_, g1, rfl⟩⟩
      simp only [List.isEmpty_toArray] at g4
      simp [Builtin.delete_, run_underlying' hu, run_getObj_map g2, g5, g4, run_setObj_map g2]
    · rename_i es clock i vv hsk
      simp only [Option.some.injEq] at hs; subst hs
      obtain ⟨kt, et, ms, hu, ho, g1, g2, g3, g4, x', g5, g6, g7⟩ := aseek_sound h hc hsk
      refine ⟨_, ?_, h.put (o := .map (es.eraseIdx i) clock) (u := .map (ms.eraseIdx i).toArray clock) hc ⟨_, g1.erase i, rfl⟩⟩
      simp only [List.isEmpty_toArray] at g4
      simp [Builtin.delete_, run_underlying' hu, run_getObj_map g2, g5, g4, run_setObj_map g2]
    · simp at hs
  · simp at hs

end Go.Eng

namespace Go.Eng
open Go.RowKit

variable {P : Program} {K : Fix} {E F : Env} {S S' : St} {X : List (List Value)} {w w' : World} {a b v : AVal} {x y : Value} {t s : TypeId} {l r : List AVal} {xs : List Value} {i j n off f : Nat}

/-! ### append, copy -/

/-- How many elements a source has, and their cells. -/
def asrc (S : St) (size : Nat) : AVal → Option (Nat × List AVal)
  | .slice b off n _ _ =>
    match S.heap[b]? with
    | some o => match cellsOf o with
      | some l => match sub l off (n * size) with
        | some cs => some (n, cs)
        | none => none
      | none => none
    | none => none
  | .lit (.slice none 0 _) => some (0, [])
  | .lit (.string s) => if size = 1 then some (s.size, s.data.toList.map fun b => .lit (.int .u8 b.toNat)) else none
  | _ => none

theorem asrc_sound {size : Nat} {cs : List AVal} (h : Ok K E S X w) (ha : VR E a x) (hs : asrc S size a = some (n, cs)) :
    ∃ xs, VRs E cs xs ∧ (∀ d, (Builtin.lenOf x).run P { w with drawn := d } = .ok n { w with drawn := d }) ∧
      (∀ d k, k ≤ n → (Builtin.firstCells size k x).run P { w with drawn := d } = .ok (xs.take (k * size)).toArray { w with drawn := d }) ∧ cs.length = n * size := by
  unfold asrc at hs
  split at hs
  · rename_i b off m q1 q2
    simp only [VR] at ha; obtain ⟨c, k, hc, _, rfl⟩ := ha
    split at hs
    · rename_i o ho
      split at hs
      · rename_i l hl
        split at hs
        · rename_i us hsub
          simp only [Option.some.injEq, Prod.mk.injEq] at hs; obtain ⟨rfl, rfl⟩ := hs
          obtain ⟨xs, hx, hcell⟩ := h.cells hc ho hl
          obtain ⟨r1, r2⟩ := sub_rel hx hsub
          refine ⟨_, r1, fun _ => rfl, fun d k hk => ?_, by rw [r1.length]; simp; omega⟩
          have hks : k * size ≤ m * size := Nat.mul_le_mul_right _ hk
          have e1 : ((xs.drop off).take (m * size)).take (k * size) = (xs.drop off).take (k * size) := by rw [List.take_take, Nat.min_eq_left hks]
          rw [e1]
          have hlen : ((xs.drop off).take (k * size)).length = k * size := by simp; omega
          have hlc := run_loadCells (P := P) (w := { w with drawn := d }) (a := ⟨c, off, none⟩) ((xs.drop off).take (k * size)) (fun j hj => by
            show w.cell? _ = _
            rw [add_plain, hcell _ (by omega)]
            rw [List.getElem?_take_of_lt (by omega), List.getElem?_drop])
          rw [hlen] at hlc
          simpa only [Builtin.firstCells] using hlc
        · simp at hs
      · simp at hs
    · simp at hs
  · simp only [VR] at ha; subst ha
    simp only [Option.some.injEq, Prod.mk.injEq] at hs; obtain ⟨rfl, rfl⟩ := hs
    exact ⟨[], VRs.nil, fun _ => rfl, fun _ k hk => by simp [Builtin.firstCells], by simp⟩
  · rename_i st
    simp only [VR] at ha; subst ha
    split at hs
    · rename_i h1
      subst h1
      simp only [Option.some.injEq, Prod.mk.injEq] at hs; obtain ⟨rfl, rfl⟩ := hs
      refine ⟨st.data.toList.map fun b => .int .u8 b.toNat, ?_, fun _ => rfl, fun _ k hk => ?_, by simp⟩
      · have := VRs.lits (E := E) (st.data.toList.map fun b => Value.int .u8 b.toNat)
        simpa [List.map_map, Function.comp_def] using this
      · simp only [Builtin.firstCells, Sem.run_pure, Nat.mul_one]
        congr 1
        have : (st.extract 0 k).data = (st.data.toList.take k).toArray := by
          rw [ByteArray.data_extract]
          apply Array.ext'
          simp
        rw [this]
        apply Array.ext'
        simp [List.map_take]
    · simp at hs
  · simp at hs

theorem growBy_le (m : Nat) : ∀ (r c : Nat), c ≤ m + m / 4 + 192 → Builtin.growBy m r c ≤ m + m / 4 + 192
  | 0, c, h => by simpa only [Builtin.growBy] using h
  | r + 1, c, h => by
    simp only [Builtin.growBy]
    split
    · exact h
    · rename_i hlt
      exact growBy_le m r _ (by omega)

theorem nextslicecap_le {m old : Nat} (h : old < m) : Builtin.nextslicecap m old ≤ 2 * m + 192 := by
  unfold Builtin.nextslicecap
  split
  · omega
  · split
    · omega
    · have := growBy_le m 4 old (by omega); omega

/-- What append's own operation is, where it grows. -/
theorem run_append_grow {t t' e ty : TypeId} {inf : TypeInfo} {z : Value} {base : Option Addr} {len cap m : Nat} {old new : Array Value} (hu : P.underlying t = some (.slice e))
    (hu' : (∃ e', P.underlying t' = some (.slice e')) ∨ P.underlying t' = some .string) (hi : P.info? e = some inf) (hz : ∀ w, (zeroValue e).run P w = .ok z w)
    (hl : ∀ d, (Builtin.lenOf y).run P { w with drawn := d } = .ok m { w with drawn := d }) (ho : ∀ d, (Builtin.firstCells inf.size len (.slice base len cap)).run P { w with drawn := d } = .ok old { w with drawn := d })
    (hn : ∀ d, (Builtin.firstCells inf.size m y).run P { w with drawn := d } = .ok new { w with drawn := d }) (hgt : cap < len + m) (hmax : len + m ≤ 1048576) (hb : (2 * (len + m) + 192) * inf.bytes ≤ 281474976710656) :
    ∃ k, len + m ≤ k ∧ k ≤ 9223372036854775807 ∧ (Builtin.append_ #[t, t'] ty #[.slice base len cap, y]).run P w =
      .ok (.slice (some ⟨w.heap.size, 0, none⟩) (len + m) k) { w with drawn := w.drawn + 1, heap := w.heap.push (.cells (old ++ new ++ Builtin.zeroCells z.cells (k - (len + m))) e) } := by
  refine ⟨(Question.appendCap (len + m) cap e).cut (w.tape w.drawn (Question.appendCap (len + m) cap e)), by simp only [Question.cut]; omega, by simp only [Question.cut]; have := Nat.mod_lt (w.tape w.drawn (Question.appendCap (len + m) cap e)) (show 0 < 2 ^ 63 - (len + m) by omega); omega, ?_⟩
  have hl0 : (Builtin.lenOf y).run P w = .ok m w := hl w.drawn
  have hcapb := nextslicecap_le hgt
  have hcb : ¬ (Builtin.nextslicecap (len + m) cap * inf.bytes > 2 ^ 48) := by
    have := Nat.mul_le_mul_right inf.bytes hcapb; omega
  have hne : ¬ (len + m ≤ cap) := by omega
  have hbig : ∀ b : Prop, ¬ (((len + m : Nat) : Int) > IntKind.i64.max ∧ b) := by
    have : IntKind.i64.max = 9223372036854775807 := by decide
    rw [this]; rintro b ⟨h1, _⟩; omega
  have hs : ∀ w, (sizeOf e).run P w = .ok inf.size w := fun _ => run_sizeOf' hi
  have hch : (choose (Question.appendCap (len + m) cap e)).run P w = .ok ((Question.appendCap (len + m) cap e).cut (w.tape w.drawn (Question.appendCap (len + m) cap e))) { w with drawn := w.drawn + 1 } := by
    simp [Question.forced]
  generalize (Question.appendCap (len + m) cap e).cut (w.tape w.drawn (Question.appendCap (len + m) cap e)) = k at hch ⊢
  have ho1 := ho (w.drawn + 1)
  have hn1 := hn (w.drawn + 1)
  rcases hu' with ⟨e', hu'⟩ | hu'
  all_goals
    simp only [Builtin.append_, List.getElem?_toArray, List.getElem?_cons_zero, List.getElem?_cons_succ, Sem.run_bind, run_underlying' hu, Result.andThen_ok, hs, run_underlying' hu', Sem.run_pure]
    simp only [Bool.false_eq_true, if_false, Sem.run_bind, hl0, Result.andThen_ok, hne, run_typeInfo' hi, hbig, hcb, hch, run_askRoom, ho1, Bool.not_false, if_true, hn1, hz, newRow, run_newObj, Sem.run_pure]

end Go.Eng
