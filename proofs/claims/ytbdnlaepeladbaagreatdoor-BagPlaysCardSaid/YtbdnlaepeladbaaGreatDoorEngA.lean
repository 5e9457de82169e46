/- A machine that runs closed code on values with names in the place of blocks, part 1 of 4: values, memory, lists, maps: each step is shown to be the model's. Conditions: none. -/
import Derived.Laws.Sem
import Derived.Calls
import Derived.Below
import Derived.LoopN
import Derived.OpenShut
import Derived.Laws.Closers25b
import Derived.Laws.Entries
namespace Go.Eng
open Go.RowKit

/-- What a term may mean. -/
inductive U
  | int (z : Int)
  | bool (b : Bool)
  | str (s : ByteArray)
  | val (v : Value)
  | rows (l : List (List Int))

inductive TOp
  | ar (op : BinOp) (k : IntKind)
  | eq
  | lt
  | mx
  | mn
  | col (c : Nat)
  | colB (c : Nat)
  | mget (c : Nat)
  | mgetB (c : Nat)
  | mhas
  | grow (k c : Nat)
  deriving DecidableEq

inductive TUn
  | not
  | wrap (k : IntKind)
  | len
  deriving DecidableEq

/-- A term: what is not known, and what is made of it. -/
inductive Tm
  | var (n : Nat)
  | int (z : Int)
  | bool (b : Bool)
  | str (s : ByteArray)
  | rows (l : List (List Int))
  | nil
  | elem (h i : Tm) (sz off : Nat)
  | bin (o : TOp) (a b : Tm)
  | un (o : TUn) (a : Tm)
  | app (f : Nat) (l : List Tm)
  deriving Inhabited

inductive TK
  | int (k : IntKind)
  | raw (k : IntKind)
  | bool
  | str
  | ptr
  | any
  deriving DecidableEq

/-- A value with names of own blocks in the place of block numbers. -/
inductive AVal where
  | top
  | tm (k : TK) (t : Tm)
  | lit (v : Value)
  | ptr (b off : Nat)
  | slice (b off len m : Nat) (c : Option Nat)
  | map (b : Nat)
  | func (fn : Fn) (first captured : List AVal)
  | iface (t : TypeId) (v : AVal)
  | agg (l : List AVal)
  | tuple (l : List AVal)
  deriving Inhabited

/-- Which block bears a name; what a capacity is; what is not known; functions; which blocks an object takes up. -/
structure Env where
  rho : Nat → Option Nat
  kap : Nat → Option Nat
  var : Nat → Option U
  fn : Nat → List U → Option U
  fp : Nat → Nat → Prop
  pp : Nat → Nat → Prop

def bitsOf (op : BinOp) (k : IntKind) (x y : Int) : Option Int :=
  let a := BitVec.ofInt k.bits x
  let b := BitVec.ofInt k.bits y
  match op with
  | .and => some (k.wrap (a &&& b).toNat)
  | .or => some (k.wrap (a ||| b).toNat)
  | _ => none

/-- The row of a key, without the key. -/
def rfind (k : Int) : List (List Int) → Option (List Int)
  | [] => none
  | r :: l => if k = r.headD 0 then some r.tail else rfind k l
/-- A key's row is this; the keys rise. -/
def rput (k : Int) (zs : List Int) : List (List Int) → List (List Int)
  | [] => [k :: zs]
  | r :: l => if k < r.headD 0 then (k :: zs) :: r :: l else if k = r.headD 0 then (k :: zs) :: l else r :: rput k zs l
def rdel (k : Int) : List (List Int) → List (List Int)
  | [] => []
  | r :: l => if k = r.headD 0 then l else r :: rdel k l

def uInts : List U → Option (List Int)
  | [] => some []
  | .int z :: l => (uInts l).map (z :: ·)
  | .bool b :: l => (uInts l).map ((if b then 1 else 0) :: ·)
  | _ => none

/-- What each function is: a few of the machine's own, and those that are given. -/
def appF (fn : Nat → List U → Option U) (f : Nat) (us : List U) : Option U :=
  match f with
  | 0 => match us with
    | .rows l :: .int k :: vs => (uInts vs).map fun zs => .rows (rput k zs l)
    | _ => none
  | 1 => match us with
    | [.rows l, .int k] => some (.rows (rdel k l))
    | _ => none
  | 2 => match us with
    | .rows l :: vs => (uInts vs).map fun zs => .rows (l ++ [zs])
    | _ => none
  | 3 => match us with
    | .rows l :: .int i :: .int c :: vs => (uInts vs).bind fun zs => match zs with
      | [z] => some (.rows (l.modify i.toNat fun r => r.set c.toNat z))
      | _ => none
    | _ => none
  | 4 => match us with
    | [.rows l, .int n] => some (.rows (l.drop n.toNat))
    | _ => none
  | 5 => match us with
    | [.rows l, .int n] => some (.rows (l.take n.toNat))
    | _ => none
  | f => match fn f us, us with
    | some (.rows l), u :: _ => if f % 4 = 3 then some (.rows l) else (match u with
      | .rows l0 => if l.length ≤ l0.length + f % 4 then some (.rows l) else none
      | _ => none)
    | r, _ => r

/-- Is a list no longer than so? -/
def growB (k c : Nat) : U → U → Bool
  | .int i, .rows l => decide ((l.length : Int) ≤ k * i + c)
  | _, _ => true

def TOp.den : TOp → U → U → Option U
  | .ar .add k, .int x, .int y => some (.int (k.wrap (x + y)))
  | .ar .sub k, .int x, .int y => some (.int (k.wrap (x - y)))
  | .ar .mul k, .int x, .int y => some (.int (k.wrap (x * y)))
  | .ar .rem _, .int x, .int y => some (.int (x.tmod y))
  | .ar .shr k, .int x, .int y => some (.int (x.fdiv (2 ^ min y.toNat k.bits)))
  | .ar op k, .int x, .int y => (bitsOf op k x y).map U.int
  | .eq, .int x, .int y => some (.bool (decide (x = y)))
  | .eq, .str x, .str y => some (.bool (decide (x = y)))
  | .eq, .bool x, .bool y => some (.bool (decide (x = y)))
  | .lt, .int x, .int y => some (.bool (decide (x < y)))
  | .mx, .int x, .int y => some (.int (if x < y then y else x))
  | .mn, .int x, .int y => some (.int (if y < x then y else x))
  | .mget c, .rows l, .int k => some (.int ((((rfind k l).getD [])[c]?).getD 0))
  | .mgetB c, .rows l, .int k => some (.bool (decide ((((rfind k l).getD [])[c]?).getD 0 ≠ 0)))
  | .mhas, .rows l, .int k => some (.bool (rfind k l).isSome)
  | .col c, .rows l, .int i => match l[i.toNat]? with
    | some row => (row[c]?).map U.int
    | none => none
  | .colB c, .rows l, .int i => match l[i.toNat]? with
    | some row => (row[c]?).map fun z => U.bool (decide (z ≠ 0))
    | none => none
  | .grow k c, x, y => some (.bool (growB k c x y))
  | _, _, _ => none

def TUn.den : TUn → U → Option U
  | .not, .bool b => some (.bool (!b))
  | .wrap k, .int x => some (.int (k.wrap x))
  | .len, .rows l => some (.int l.length)
  | _, _ => none

mutual
def Tm.den (E : Env) : Tm → Option U
  | .var n => E.var n
  | .int z => some (.int z)
  | .bool b => some (.bool b)
  | .str s => some (.str s)
  | .rows l => some (.rows l)
  | .nil => some (.val (.slice none 0 0))
  | .elem h i sz off => match h.den E, i.den E with
    | some (.val (.slice (some ⟨b, o, none⟩) _ _)), some (.int z) => some (.val (.pointer (some ⟨b, o + z.toNat * sz + off, none⟩)))
    | _, _ => none
  | .bin o a b => match a.den E, b.den E with
    | some x, some y => o.den x y
    | _, _ => none
  | .un o a => match a.den E with
    | some x => o.den x
    | _ => none
  | .app f l => match dens E l with
    | some xs => appF E.fn f xs
    | none => none
def dens (E : Env) : List Tm → Option (List U)
  | [] => some []
  | a :: l => match a.den E, dens E l with
    | some x, some xs => some (x :: xs)
    | _, _ => none
end

/-- A term as a value. -/
def TR (E : Env) : TK → Tm → Value → Prop
  | .int k, t, x => ∃ z, t.den E = some (.int z) ∧ (Lit.int k z).wf = true ∧ x = .int k z
  | .raw k, t, x => ∃ z, t.den E = some (.int z) ∧ x = .int k z
  | .bool, t, x => ∃ b, t.den E = some (.bool b) ∧ x = .bool b
  | .str, t, x => ∃ s, t.den E = some (.str s) ∧ x = .string s
  | .ptr, t, x => ∃ a, t.den E = some (.val (.pointer (some a))) ∧ x = .pointer (some a)
  | .any, t, x => t.den E = some (.val x) ∧ x.oneCell' = true ∧ x.cells = #[x]

def CapR (E : Env) (m : Nat) : Option Nat → Nat → Prop
  | none, k => k = m
  | some q, k => ∃ n, E.kap q = some n ∧ m ≤ n ∧ k = n - m

mutual
def VR (E : Env) : AVal → Value → Prop
  | .top, _ => True
  | .tm k t, x => TR E k t x
  | .lit v, x => x = v
  | .ptr b off, x => ∃ c, E.rho b = some c ∧ x = .pointer (some ⟨c, off, none⟩)
  | .slice b off len m q, x => ∃ c k, E.rho b = some c ∧ CapR E m q k ∧ x = .slice (some ⟨c, off, none⟩) len k
  | .map b, x => ∃ c, E.rho b = some c ∧ x = .map (some c)
  | .func fn f g, x => ∃ fs gs, VRs E f fs ∧ VRs E g gs ∧ x = .func fn fs.toArray gs.toArray
  | .iface t v, x => ∃ y, VR E v y ∧ x = .iface t y
  | .agg l, x => ∃ xs, VRs E l xs ∧ x = .agg xs.toArray
  | .tuple l, x => ∃ xs, VRs E l xs ∧ x = .tuple xs.toArray
def VRs (E : Env) : List AVal → List Value → Prop
  | [], xs => xs = []
  | a :: l, xs => ∃ x r, VR E a x ∧ VRs E l r ∧ xs = x :: r
end

structure Env.Le (E F : Env) : Prop where
  rho : ∀ b c, E.rho b = some c → F.rho b = some c
  kap : ∀ b c, E.kap b = some c → F.kap b = some c
  var : ∀ n u, E.var n = some u → F.var n = some u
  fn : F.fn = E.fn

theorem Env.Le.refl (E : Env) : E.Le E := ⟨fun _ _ h => h, fun _ _ h => h, fun _ _ h => h, rfl⟩
theorem Env.Le.trans {E F G : Env} (h : E.Le F) (k : F.Le G) : E.Le G := ⟨fun b c x => k.rho b c (h.rho b c x), fun b c x => k.kap b c (h.kap b c x), fun n u x => k.var n u (h.var n u x), k.fn.trans h.fn⟩

mutual
theorem Tm.den_mono {E F : Env} (h : E.Le F) : ∀ (t : Tm) (u : U), t.den E = some u → t.den F = some u
  | .var n, u, r => h.var n u r
  | .int z, u, r => r
  | .bool b, u, r => r
  | .str s, u, r => r
  | .rows s, u, r => r
  | .nil, u, r => r
  | .elem p i sz off, u, r => by
    simp only [Tm.den] at r ⊢
    split at r
    · rename_i h1 h2
      rw [Tm.den_mono h p _ h1, Tm.den_mono h i _ h2]; exact r
    · cases r
  | .bin o a b, u, r => by
    simp only [Tm.den] at r ⊢
    split at r
    · rename_i x y h1 h2
      rw [Tm.den_mono h a x h1, Tm.den_mono h b y h2]; exact r
    · cases r
  | .un o a, u, r => by
    simp only [Tm.den] at r ⊢
    split at r
    · rename_i x h1
      rw [Tm.den_mono h a x h1]; exact r
    · cases r
  | .app f l, u, r => by
    simp only [Tm.den] at r ⊢
    split at r
    · rename_i xs h1
      rw [dens_mono h l xs h1, h.fn]; exact r
    · cases r
theorem dens_mono {E F : Env} (h : E.Le F) : ∀ (l : List Tm) (us : List U), dens E l = some us → dens F l = some us
  | [], us, r => r
  | a :: l, us, r => by
    simp only [dens] at r ⊢
    split at r
    · rename_i x xs h1 h2
      rw [Tm.den_mono h a x h1, dens_mono h l xs h2]; exact r
    · cases r
end

theorem TR.mono {E F : Env} (h : E.Le F) {k : TK} {t : Tm} {x : Value} (r : TR E k t x) : TR F k t x := by
  cases k with
  | int k => obtain ⟨z, h1, h2⟩ := r; exact ⟨z, Tm.den_mono h _ _ h1, h2⟩
  | raw k => obtain ⟨z, h1, h2⟩ := r; exact ⟨z, Tm.den_mono h _ _ h1, h2⟩
  | bool => obtain ⟨z, h1, h2⟩ := r; exact ⟨z, Tm.den_mono h _ _ h1, h2⟩
  | str => obtain ⟨z, h1, h2⟩ := r; exact ⟨z, Tm.den_mono h _ _ h1, h2⟩
  | ptr => obtain ⟨z, h1, h2⟩ := r; exact ⟨z, Tm.den_mono h _ _ h1, h2⟩
  | any => obtain ⟨h1, h2⟩ := r; exact ⟨Tm.den_mono h _ _ h1, h2⟩

theorem TR.cells {E : Env} {k : TK} {t : Tm} {x : Value} (r : TR E k t x) : x.cells = #[x] := by
  cases k with
  | int k => obtain ⟨z, h1, h2, rfl⟩ := r; rfl
  | raw k => obtain ⟨z, h1, rfl⟩ := r; rfl
  | bool => obtain ⟨z, h1, rfl⟩ := r; rfl
  | str => obtain ⟨z, h1, rfl⟩ := r; rfl
  | ptr => obtain ⟨z, h1, rfl⟩ := r; rfl
  | any => obtain ⟨h1, h2, h3⟩ := r; exact h3

theorem TR.one {E : Env} {k : TK} {t : Tm} {x : Value} (r : TR E k t x) : x.oneCell' = true := by
  cases k with
  | int k => obtain ⟨z, h1, h2, rfl⟩ := r; rfl
  | raw k => obtain ⟨z, h1, rfl⟩ := r; rfl
  | bool => obtain ⟨z, h1, rfl⟩ := r; rfl
  | str => obtain ⟨z, h1, rfl⟩ := r; rfl
  | ptr => obtain ⟨z, h1, rfl⟩ := r; rfl
  | any => obtain ⟨h1, h2, h3⟩ := r; exact h2

theorem CapR.mono {E F : Env} (h : E.Le F) {m : Nat} {q : Option Nat} {k : Nat} (r : CapR E m q k) : CapR F m q k := by
  cases q with
  | none => exact r
  | some q => obtain ⟨n, h1, h2, h3⟩ := r; exact ⟨n, h.kap _ _ h1, h2, h3⟩

mutual
theorem VR.mono {E F : Env} (h : E.Le F) : ∀ (a : AVal) (x : Value), VR E a x → VR F a x
  | .top, x, r => by simp only [VR]
  | .tm k t, x, r => by simp only [VR] at r ⊢; exact TR.mono h r
  | .lit v, x, r => by simpa only [VR] using r
  | .ptr b off, x, r => by
    simp only [VR] at r ⊢; obtain ⟨c, h1, h2⟩ := r; exact ⟨c, h.rho _ _ h1, h2⟩
  | .slice b off len m q, x, r => by
    simp only [VR] at r ⊢; obtain ⟨c, k, h1, h2, h3⟩ := r; exact ⟨c, k, h.rho _ _ h1, h2.mono h, h3⟩
  | .map b, x, r => by
    simp only [VR] at r ⊢; obtain ⟨c, h1, h2⟩ := r; exact ⟨c, h.rho _ _ h1, h2⟩
  | .func fn f g, x, r => by
    simp only [VR] at r ⊢; obtain ⟨fs, gs, h1, h2, h3⟩ := r; exact ⟨fs, gs, VRs.mono h f fs h1, VRs.mono h g gs h2, h3⟩
  | .iface t v, x, r => by
    simp only [VR] at r ⊢; obtain ⟨y, h1, h2⟩ := r; exact ⟨y, VR.mono h v y h1, h2⟩
  | .agg l, x, r => by
    simp only [VR] at r ⊢; obtain ⟨xs, h1, h2⟩ := r; exact ⟨xs, VRs.mono h l xs h1, h2⟩
  | .tuple l, x, r => by
    simp only [VR] at r ⊢; obtain ⟨xs, h1, h2⟩ := r; exact ⟨xs, VRs.mono h l xs h1, h2⟩
theorem VRs.mono {E F : Env} (h : E.Le F) : ∀ (l : List AVal) (xs : List Value), VRs E l xs → VRs F l xs
  | [], xs, r => by simpa only [VRs] using r
  | a :: l, xs, r => by
    simp only [VRs] at r ⊢; obtain ⟨x, s, h1, h2, h3⟩ := r; exact ⟨x, s, VR.mono h a x h1, VRs.mono h l s h2, h3⟩
end

theorem VRs.nil {E : Env} : VRs E [] [] := by simp only [VRs]
theorem VRs.cons {E : Env} {a x l xs} (h : VR E a x) (k : VRs E l xs) : VRs E (a :: l) (x :: xs) := by
  simp only [VRs]; exact ⟨x, xs, h, k, rfl⟩
theorem VRs.length {E : Env} : ∀ {l : List AVal} {xs : List Value}, VRs E l xs → l.length = xs.length
  | [], xs, r => by simp only [VRs] at r; simp [r]
  | a :: l, xs, r => by
    simp only [VRs] at r; obtain ⟨x, s, _, h2, h3⟩ := r; simp [h3, VRs.length h2]
theorem VRs.get {E : Env} : ∀ {l : List AVal} {xs : List Value} {i : Nat} {a : AVal}, VRs E l xs → l[i]? = some a → ∃ x, xs[i]? = some x ∧ VR E a x
  | [], xs, i, a, _, h => by simp at h
  | b :: l, xs, i, a, r, h => by
    simp only [VRs] at r; obtain ⟨x, s, h1, h2, h3⟩ := r
    subst h3
    cases i with
    | zero => simp at h; subst h; exact ⟨x, by simp, h1⟩
    | succ i => simp at h; simpa using VRs.get h2 h
theorem VRs.append {E : Env} : ∀ {l : List AVal} {xs : List Value} {m : List AVal} {ys : List Value}, VRs E l xs → VRs E m ys → VRs E (l ++ m) (xs ++ ys)
  | [], xs, m, ys, r, k => by simp only [VRs] at r; subst r; simpa using k
  | a :: l, xs, m, ys, r, k => by
    simp only [VRs] at r; obtain ⟨x, s, h1, h2, h3⟩ := r; subst h3
    exact VRs.cons h1 (VRs.append h2 k)
theorem VRs.take {E : Env} : ∀ {l : List AVal} {xs : List Value} (n : Nat), VRs E l xs → VRs E (l.take n) (xs.take n)
  | [], xs, n, r => by simp only [VRs] at r; subst r; simp [VRs]
  | a :: l, xs, n, r => by
    simp only [VRs] at r; obtain ⟨x, s, h1, h2, h3⟩ := r; subst h3
    cases n with
    | zero => simp [VRs]
    | succ n => simp only [List.take_succ_cons]; exact VRs.cons h1 (VRs.take n h2)
theorem VRs.drop {E : Env} : ∀ {l : List AVal} {xs : List Value} (n : Nat), VRs E l xs → VRs E (l.drop n) (xs.drop n)
  | [], xs, n, r => by simp only [VRs] at r; subst r; simp [VRs]
  | a :: l, xs, n, r => by
    simp only [VRs] at r; obtain ⟨x, s, h1, h2, h3⟩ := r; subst h3
    cases n with
    | zero => simp; exact VRs.cons h1 h2
    | succ n => simp only [List.drop_succ_cons]; exact VRs.drop n h2
theorem VRs.set {E : Env} : ∀ {l : List AVal} {xs : List Value} {i : Nat} {a : AVal} {x : Value}, VRs E l xs → VR E a x → VRs E (l.set i a) (xs.set i x)
  | [], xs, i, a, x, r, _ => by simp only [VRs] at r; subst r; simp [VRs]
  | b :: l, xs, i, a, x, r, h => by
    simp only [VRs] at r; obtain ⟨y, s, h1, h2, h3⟩ := r; subst h3
    cases i with
    | zero => simp; exact VRs.cons h h2
    | succ i => simp only [List.set_cons_succ]; exact VRs.cons h1 (VRs.set h2 h)
theorem VRs.lits {E : Env} (l : List Value) : VRs E (l.map .lit) l := by
  induction l with
  | nil => exact VRs.nil
  | cons v l ih => exact VRs.cons (by simp only [VR]) ih

/-- A list's cell as 'getD' tells it. -/
theorem VRs.getD {E : Env} {l : List AVal} {xs : List Value} {i : Nat} {a : AVal} (r : VRs E l xs) (h : l[i]? = some a) : VR E a (xs.getD i undef) := by
  obtain ⟨x, h1, h2⟩ := r.get h
  simpa [List.getD, h1] using h2

mutual
/-- The value, where it names no block. -/
def AVal.toLit : AVal → Option Value
  | .lit v => some v
  | .iface t v => v.toLit.map (Value.iface t)
  | .agg l => (toLits l).map (fun xs => Value.agg xs.toArray)
  | .tuple l => (toLits l).map (fun xs => Value.tuple xs.toArray)
  | _ => none
def toLits : List AVal → Option (List Value)
  | [] => some []
  | a :: l => match a.toLit, toLits l with
    | some x, some xs => some (x :: xs)
    | _, _ => none
end

mutual
theorem toLit_eq {E : Env} : ∀ {a : AVal} {x y : Value}, a.toLit = some x → VR E a y → y = x
  | .lit v, x, y, h, r => by simp only [AVal.toLit, Option.some.injEq] at h; simp only [VR] at r; rw [r, h]
  | .iface t v, x, y, h, r => by
    simp only [AVal.toLit, Option.map_eq_some_iff] at h; obtain ⟨z, h1, h2⟩ := h
    simp only [VR] at r; obtain ⟨u, r1, r2⟩ := r
    rw [r2, ← h2, toLit_eq h1 r1]
  | .agg l, x, y, h, r => by
    simp only [AVal.toLit, Option.map_eq_some_iff] at h; obtain ⟨z, h1, h2⟩ := h
    simp only [VR] at r; obtain ⟨u, r1, r2⟩ := r
    rw [r2, ← h2, toLits_eq h1 r1]
  | .tuple l, x, y, h, r => by
    simp only [AVal.toLit, Option.map_eq_some_iff] at h; obtain ⟨z, h1, h2⟩ := h
    simp only [VR] at r; obtain ⟨u, r1, r2⟩ := r
    rw [r2, ← h2, toLits_eq h1 r1]
  | .top, _, _, h, _ => by simp [AVal.toLit] at h
  | .tm .., _, _, h, _ => by simp [AVal.toLit] at h
  | .ptr .., _, _, h, _ => by simp [AVal.toLit] at h
  | .slice .., _, _, h, _ => by simp [AVal.toLit] at h
  | .map .., _, _, h, _ => by simp [AVal.toLit] at h
  | .func .., _, _, h, _ => by simp [AVal.toLit] at h
theorem toLits_eq {E : Env} : ∀ {l : List AVal} {xs ys : List Value}, toLits l = some xs → VRs E l ys → ys = xs
  | [], xs, ys, h, r => by simp only [toLits, Option.some.injEq] at h; simp only [VRs] at r; rw [r, ← h]
  | a :: l, xs, ys, h, r => by
    simp only [toLits] at h
    simp only [VRs] at r; obtain ⟨x, s, r1, r2, r3⟩ := r
    split at h
    · rename_i u us h1 h2
      simp only [Option.some.injEq] at h
      rw [r3, ← h, toLit_eq h1 r1, toLits_eq h2 r2]
    · simp at h
end

/-- The cells that a value takes up. -/
def AVal.cells : AVal → List AVal
  | .agg l => l
  | .lit (.agg cs) => cs.toList.map .lit
  | v => [v]
def isTop : AVal → Bool
  | .top => true
  | _ => false
theorem isTop_ne {a : AVal} (h : isTop a = false) : a ≠ .top := by rintro rfl; cases h

/-- A value that is told. -/
def noTop : AVal → Option AVal
  | .top => none
  | v => some v
theorem noTop_some {a b : AVal} (h : noTop a = some b) : a = b ∧ b ≠ .top := by
  cases a <;> simp only [noTop, Option.some.injEq, reduceCtorEq] at h <;> subst h <;> exact ⟨rfl, by simp⟩

theorem VR.cells {E : Env} {a : AVal} {x : Value} (r : VR E a x) (ht : a ≠ .top) : VRs E a.cells x.cells.toList := by
  cases a with
  | top => exact absurd rfl ht
  | tm k t => simp only [VR] at r; rw [r.cells]; exact VRs.cons (by simpa only [VR] using r) VRs.nil
  | agg l => simp only [VR] at r; obtain ⟨xs, h, rfl⟩ := r; simpa [AVal.cells, Value.cells] using h
  | lit v => 
    simp only [VR] at r; subst r
    cases x <;> simp only [AVal.cells, Value.cells] <;> first | exact VRs.lits _ | exact VRs.cons (by simp only [VR]) VRs.nil
  | ptr b off => simp only [VR] at r; obtain ⟨c, h, rfl⟩ := r; exact VRs.cons (by simp only [VR]; exact ⟨c, h, rfl⟩) VRs.nil
  | slice b off len m q => simp only [VR] at r; obtain ⟨c, k, h, h2, rfl⟩ := r; exact VRs.cons (by simp only [VR]; exact ⟨c, k, h, h2, rfl⟩) VRs.nil
  | map b => simp only [VR] at r; obtain ⟨c, h, rfl⟩ := r; exact VRs.cons (by simp only [VR]; exact ⟨c, h, rfl⟩) VRs.nil
  | func fn f g => simp only [VR] at r; obtain ⟨fs, gs, h, h2, rfl⟩ := r; exact VRs.cons (by simp only [VR]; exact ⟨fs, gs, h, h2, rfl⟩) VRs.nil
  | iface t v => simp only [VR] at r; obtain ⟨y, h, rfl⟩ := r; exact VRs.cons (by simp only [VR]; exact ⟨y, h, rfl⟩) VRs.nil
  | tuple l => simp only [VR] at r; obtain ⟨xs, h, rfl⟩ := r; exact VRs.cons (by simp only [VR]; exact ⟨xs, h, rfl⟩) VRs.nil

/-- An entry of a map. -/
structure AEnt where
  key : AVal
  val : AVal
  born : Nat

/-- A block. 'op': its cells go on, unknown, up to the capacity named, times the cells of one element. -/
inductive AObj where
  | cells (l : List AVal) (elem : TypeId) (fz : Nat × Nat) (op : Option (Nat × Nat))
  | map (es : List AEnt) (clock : Nat)
  | iter (m : Option Nat) (since : Nat) (seen : List Nat) (stepped : Nat)
  | raw (o : Obj)
  deriving Inhabited

def ER (E : Env) : List AEnt → List MapEntry → Prop
  | [], xs => xs = []
  | a :: l, xs => ∃ x r, VR E a.key x.key ∧ VR E a.val x.val ∧ x.born = a.born ∧ ER E l r ∧ xs = x :: r

theorem ER.mono {E F : Env} (h : E.Le F) : ∀ (l : List AEnt) (xs : List MapEntry), ER E l xs → ER F l xs
  | [], xs, r => by simpa only [ER] using r
  | a :: l, xs, r => by
    simp only [ER] at r ⊢; obtain ⟨x, s, h1, h2, h3, h4, h5⟩ := r
    exact ⟨x, s, VR.mono h _ _ h1, VR.mono h _ _ h2, h3, ER.mono h l s h4, h5⟩

def OptB (E : Env) : Option Nat → Option Nat → Prop
  | none, c => c = none
  | some m, c => ∃ d, E.rho m = some d ∧ c = some d

theorem OptB.mono {E F : Env} (h : E.Le F) {m c : Option Nat} (r : OptB E m c) : OptB F m c := by
  cases m with
  | none => exact r
  | some m => obtain ⟨d, h1, h2⟩ := r; exact ⟨d, h.rho _ _ h1, h2⟩

def OR (E : Env) : AObj → Obj → Prop
  | .cells l e fz none, o => ∃ xs, VRs E l xs ∧ o = .cells xs.toArray e fz
  | .cells l e fz (some (q, s)), o => ∃ xs tail n, VRs E l xs ∧ E.kap q = some n ∧ xs.length + tail.length = n * s ∧ o = .cells (xs ++ tail).toArray e fz
  | .map es clock, o => ∃ xs, ER E es xs ∧ o = .map xs.toArray clock
  | .iter m since seen stepped, o => ∃ c, OptB E m c ∧ o = .mapIter c since seen.toArray stepped
  | .raw u, o => o = u

theorem OR.mono {E F : Env} (h : E.Le F) (a : AObj) (o : Obj) (r : OR E a o) : OR F a o := by
  match a with
  | .cells l e fz none => obtain ⟨xs, h1, h2⟩ := r; exact ⟨xs, VRs.mono h _ _ h1, h2⟩
  | .cells l e fz (some (q, s)) => obtain ⟨xs, t, n, h1, h2, h3, h4⟩ := r; exact ⟨xs, t, n, VRs.mono h _ _ h1, h.kap _ _ h2, h3, h4⟩
  | .map es clock => obtain ⟨xs, h1, h2⟩ := r; exact ⟨xs, ER.mono h _ _ h1, h2⟩
  | .iter m a b c => obtain ⟨x, h1, h2⟩ := r; exact ⟨x, h1.mono h, h2⟩
  | .raw u => exact r

/-- An object that is not taken apart: its kind, its handle, its state. -/
structure AOb where
  kind : Nat
  h : Tm
  gs : List Tm

/-- What else is known: objects; conditions; how many unknowns there are. -/
structure Sx where
  objs : List AOb
  conds : List (Tm × Bool)
  nv : Nat

def Sx.nil : Sx := ⟨[], [], 0⟩

structure St where
  heap : List AObj
  caps : List Nat
  stk : List (List AVal)
  x : Sx

def SR (E : Env) : List (List AVal) → List (List Value) → Prop
  | [], X => X = []
  | a :: l, X => ∃ x r, VRs E a x ∧ SR E l r ∧ X = x :: r
theorem SR.mono {E F : Env} (h : E.Le F) : ∀ (l : List (List AVal)) (X : List (List Value)), SR E l X → SR F l X
  | [], xs, r => by simpa only [SR] using r
  | a :: l, xs, r => by
    simp only [SR] at r ⊢; obtain ⟨x, s, h1, h2, h3⟩ := r; exact ⟨x, s, VRs.mono h a x h1, SR.mono h l s h2, h3⟩

/-- A number of a row, as a cell. -/
def colV : TK → Int → Option Value
  | .int k, z => some (.int k z)
  | .bool, z => some (.bool (decide (z ≠ 0)))
  | _, _ => none

def colWf : TK → Int → Bool
  | .int k, z => (Lit.int k z).wf
  | .bool, z => decide (z = 0 ∨ z = 1)
  | _, _ => false

/-- A row's numbers, as cells. -/
def colVs : List TK → List Int → List Value
  | q :: qs, z :: zs => (colV q z).getD undef :: colVs qs zs
  | _, _ => []
def colWfs : List TK → List Int → Bool
  | [], [] => true
  | q :: qs, z :: zs => colWf q z && colWfs qs zs
  | _, _ => false

theorem colWf_some {q : TK} {z : Int} (h : colWf q z = true) : ∃ v, colV q z = some v := by
  cases q <;> simp only [colWf, Bool.false_eq_true] at h
  · exact ⟨_, rfl⟩
  · exact ⟨_, rfl⟩

theorem colWfs_get : ∀ {qs : List TK} {zs : List Int} {c : Nat} {q : TK}, colWfs qs zs = true → qs[c]? = some q → ∃ z, zs[c]? = some z ∧ colWf q z = true ∧ (colVs qs zs)[c]? = colV q z
  | [], [], c, q, _, h => by simp at h
  | q' :: qs, z :: zs, c, q, h, hc => by
    simp only [colWfs, Bool.and_eq_true] at h
    cases c with
    | zero =>
      simp at hc; subst hc
      obtain ⟨v, hv⟩ := colWf_some h.1
      exact ⟨z, by simp, h.1, by simp [colVs, hv]⟩
    | succ c =>
      simp at hc
      obtain ⟨z', h1, h2, h3⟩ := colWfs_get h.2 hc
      exact ⟨z', by simpa using h1, h2, by simpa [colVs] using h3⟩
  | [], _ :: _, _, _, h, _ => by simp [colWfs] at h
  | _ :: _, [], _, _, h, _ => by simp [colWfs] at h
theorem colWfs_length : ∀ {qs : List TK} {zs : List Int}, colWfs qs zs = true → zs.length = qs.length ∧ (colVs qs zs).length = qs.length
  | [], [], _ => ⟨rfl, rfl⟩
  | q' :: qs, z :: zs, h => by
    simp only [colWfs, Bool.and_eq_true] at h
    obtain ⟨h1, h2⟩ := colWfs_length h.2
    exact ⟨by simp [h1], by simp [colVs, h2]⟩
  | [], _ :: _, h => by simp [colWfs] at h
  | _ :: _, [], h => by simp [colWfs] at h

/-- What kinds of objects there are: lists of rows; maps from numbers to rows; others. -/
inductive Fmt
  | list (cols : List TK) (own : Bool)
  | map (q : IntKind) (cols : List TK) (sg : Bool)
  | other

/-- A list of rows in memory: its block is one that may be written, or one that is only read. -/
def ListR (cols : List TK) (own : Bool) (v : Value) (gs : List U) (w : World) (D R : Nat → Prop) : Prop :=
  ∃ l, gs = [.rows l] ∧ ((v = .slice none 0 0 ∧ l = []) ∨ ∃ b off cap cs e, v = .slice (some ⟨b, off, none⟩) l.length cap ∧ l.length ≤ cap ∧ cap ≤ 9223372036854775807 ∧
    w.heap[b]? = some (.cells cs e (0, 0)) ∧ off + cap * cols.length ≤ cs.size ∧ ((own = true ∧ D b) ∨ (own = false ∧ R b)) ∧
    ∀ (i : Nat) row, l[i]? = some row → colWfs cols row = true ∧ ∀ c, c < cols.length → cs[off + i * cols.length + c]? = (colVs cols row)[c]?)

def rowVal (cols : List TK) (sg : Bool) (zs : List Int) : Value := if sg then (colVs cols zs).headD undef else .agg (colVs cols zs).toArray

/-- A map from numbers to rows, told by its rows (the key ahead), by rising keys. -/
def MapR (q : IntKind) (cols : List TK) (sg : Bool) (v : Value) (gs : List U) (w : World) (D : Nat → Prop) : Prop :=
  ∃ (l : List (List Int)) (m : Nat) (ms : List MapEntry) (ck : Nat) (p : List (Int × List Int)), gs = [.rows l] ∧ v = .map (some m) ∧ D m ∧ w.heap[m]? = some (.map ms.toArray ck) ∧
    p.Perm (l.map fun r => (r.headD 0, r.tail)) ∧ ms.map (fun e => (e.key, e.val)) = p.map (fun x => (.int q x.1, rowVal cols sg x.2)) ∧ ms.Pairwise (fun a b => a.born ≠ b.born) ∧ (∀ e ∈ ms, e.born < ck) ∧
    l.Pairwise (fun a b => a.headD 0 < b.headD 0) ∧ ∀ r ∈ l, colWfs (.int q :: cols) r = true

/-- What objects are, in memory (the blocks that they may write, those that they only read); what functions are. -/
structure Objs where
  fmt : Nat → Fmt
  cus : Nat → Value → List U → World → (Nat → Prop) → (Nat → Prop) → Prop
  fn : Nat → List U → Option U
  lkind : TypeId → Option Nat
  mkind : TypeId → Option Nat
  cframe : ∀ k v gs w w' D R, cus k v gs w D R → (∀ c, D c ∨ R c → w'.heap[c]? = w.heap[c]?) → cus k v gs w' D R

def Objs.none : Objs := ⟨fun _ => .other, fun _ _ _ _ _ _ => False, fun _ _ => .none, fun _ => .none, fun _ => .none, fun _ _ _ _ _ _ _ h _ => h⟩

def Objs.obj (ob : Objs) (k : Nat) (v : Value) (gs : List U) (w : World) (D R : Nat → Prop) : Prop :=
  match ob.fmt k with
  | .list cols own => ListR cols own v gs w D R
  | .map q cols sg => MapR q cols sg v gs w D
  | .other => ob.cus k v gs w D R
def Objs.nils (ob : Objs) (k : Nat) : Bool := match ob.fmt k with
  | .list _ _ => true
  | _ => false
def Objs.cols (ob : Objs) (k : Nat) : List TK := match ob.fmt k with
  | .list cols _ => cols
  | _ => []

theorem Objs.list_of {ob : Objs} {k : Nat} (h : ob.nils k = true) : ∃ own, ob.fmt k = .list (ob.cols k) own := by
  unfold Objs.nils at h
  unfold Objs.cols
  split at h
  · rename_i own hf; rw [hf]; exact ⟨own, rfl⟩
  · cases h

theorem Objs.hnil (ob : Objs) (k : Nat) (w : World) (h : ob.nils k = true) : ob.obj k (.slice .none 0 0) [.rows []] w (fun _ => False) (fun _ => False) := by
  unfold Objs.obj
  obtain ⟨own, hf⟩ := Objs.list_of h
  rw [hf]
  exact ⟨[], rfl, .inl ⟨rfl, rfl⟩⟩

theorem Objs.hlen (ob : Objs) (k : Nat) (v : Value) (gs : List U) (w : World) (D R : Nat → Prop) (h : ob.nils k = true) (ho : ob.obj k v gs w D R) :
    ∃ a n cap l, v = .slice a n cap ∧ gs = [.rows l] ∧ n = l.length ∧ n ≤ 9223372036854775807 ∧ ((a = .none ∧ l = []) ∨ ∃ b off, a = some ⟨b, off, .none⟩) := by
  unfold Objs.obj at ho
  obtain ⟨own, hf⟩ := Objs.list_of h
  rw [hf] at ho
  obtain ⟨l, rfl, ⟨rfl, rfl⟩ | ⟨b, off, cap, cs, e, rfl, h1, h2, _⟩⟩ := ho
  · exact ⟨.none, 0, 0, [], rfl, rfl, rfl, by omega, .inl ⟨rfl, rfl⟩⟩
  · exact ⟨some ⟨b, off, .none⟩, _, cap, l, rfl, rfl, rfl, by omega, .inr ⟨b, off, rfl⟩⟩

theorem Objs.hcol (ob : Objs) (k : Nat) (l : List (List Int)) (w : World) (D R : Nat → Prop) (b off n cap : Nat) (h : ob.nils k = true) (ho : ob.obj k (.slice (some ⟨b, off, .none⟩) n cap) [.rows l] w D R) :
    ∀ i row, l[i]? = some row → ∀ c q, (ob.cols k)[c]? = some q → ∃ z, row[c]? = some z ∧ (∀ kk, q = .int kk → (Lit.int kk z).wf = true) ∧ w.cell? ⟨b, off + i * (ob.cols k).length + c, .none⟩ = colV q z := by
  unfold Objs.obj at ho
  obtain ⟨own, hf⟩ := Objs.list_of h
  rw [hf] at ho
  intro i row hi c q hq
  obtain ⟨l', hl, ⟨h1, _⟩ | ⟨b', off', cap', cs, e, h1, h2, h3, h4, h5, h6, h7⟩⟩ := ho
  · cases h1
  · simp only [List.cons.injEq, U.rows.injEq, and_true] at hl
    subst hl
    simp only [Value.slice.injEq, Option.some.injEq, Addr.mk.injEq, and_true] at h1
    obtain ⟨⟨rfl, rfl⟩, _⟩ := h1
    obtain ⟨g1, g2⟩ := h7 i row hi
    obtain ⟨z, k1, k2, k3⟩ := colWfs_get g1 hq
    have hc := (List.getElem?_eq_some_iff.1 hq).1
    refine ⟨z, k1, fun kk hk => by rw [hk] at k2; exact k2, ?_⟩
    simp only [World.cell?, h4]
    rw [g2 c hc, k3]
    rfl

theorem Objs.frame (ob : Objs) (k : Nat) (v : Value) (gs : List U) (w w' : World) (D R : Nat → Prop) (h : ob.obj k v gs w D R) (hf : ∀ c, D c ∨ R c → w'.heap[c]? = w.heap[c]?) : ob.obj k v gs w' D R := by
  unfold Objs.obj at h ⊢
  split
  · rename_i cols own hc
    rw [hc] at h
    obtain ⟨l, h0, h1 | ⟨b, off, cap, cs, e, h1, h2, h3, h4, h5, h6, h7⟩⟩ := h
    · exact ⟨l, h0, .inl h1⟩
    · exact ⟨l, h0, .inr ⟨b, off, cap, cs, e, h1, h2, h3, (hf b (h6.imp And.right And.right)).trans h4, h5, h6, h7⟩⟩
  · rename_i q cols sg hc
    rw [hc] at h
    obtain ⟨l, m, ms, ck, p, h1, h2, h3, h4, h5⟩ := h
    exact ⟨l, m, ms, ck, p, h1, h2, h3, (hf m (.inl h3)).trans h4, h5⟩
  · rename_i hc
    rw [hc] at h
    exact ob.cframe _ _ _ _ _ _ _ h hf

/-- What is fixed throughout: the globals that are known, the first own block, the world at the beginning. -/
structure Fix where
  glob : Nat → Option (List Value)
  n0 : Nat
  w0 : World
  hglob : ∀ g l, glob g = some l → g < n0 ∧ ∀ i v, l[i]? = some v → w0.cell? ⟨g, i, none⟩ = some v
  ob : Objs
  vars : Nat → Option U

/-- What the machine asks of it. -/
structure Glb where
  glob : Nat → Option (List Value)
  nils : Nat → Bool
  cols : Nat → List TK
  fmt : Nat → Fmt
  lkind : TypeId → Option Nat
  mkind : TypeId → Option Nat

def Fix.toG (K : Fix) : Glb := ⟨K.glob, K.ob.nils, K.ob.cols, K.ob.fmt, K.ob.lkind, K.ob.mkind⟩
instance : Coe Fix Glb := ⟨Fix.toG⟩

/-- What holds of the objects and of what is not known. -/
structure XOk (K : Fix) (E : Env) (x : Sx) (w : World) : Prop where
  fn : E.fn = K.ob.fn
  objs : ∀ i o, x.objs[i]? = some o → ∃ v gs, o.h.den E = some (.val v) ∧ dens E o.gs = some gs ∧ K.ob.obj o.kind v gs w (E.fp i) (E.pp i)
  odis : ∀ i j, i < x.objs.length → j < x.objs.length → i ≠ j → ∀ c, E.fp i c → ¬ E.fp j c
  opp : ∀ i j, i < x.objs.length → j < x.objs.length → ∀ c, E.pp i c → ¬ E.fp j c
  onam : ∀ i b c, i < x.objs.length → E.rho b = some c → ¬ E.fp i c ∧ ¬ E.pp i c
  obnd : ∀ i c, i < x.objs.length → E.fp i c → K.n0 ≤ c ∧ c < w.heap.size
  pbnd : ∀ i c, i < x.objs.length → E.pp i c → c < w.heap.size
  conds : ∀ p ∈ x.conds, p.1.den E = some (.bool p.2)
  vars : ∀ n, (E.var n).isSome → n < x.nv
  base : ∀ n u, K.vars n = some u → E.var n = some u

/-- Does no object take up a block? -/
def FreeX (E : Env) (x : Sx) (c : Nat) : Prop := ∀ i, i < x.objs.length → ¬ E.fp i c ∧ ¬ E.pp i c

theorem den_same {E F : Env} (hv : F.var = E.var) (hf : F.fn = E.fn) (t : Tm) : Tm.den F t = Tm.den E t := by
  refine Tm.rec (motive_1 := fun t => Tm.den F t = Tm.den E t) (motive_2 := fun l => dens F l = dens E l) ?_ ?_ ?_ ?_ ?_ ?_ ?_ ?_ ?_ ?_ ?_ ?_ t
  · intro n; simp only [Tm.den, hv]
  · intro z; rfl
  · intro z; rfl
  · intro z; rfl
  · intro z; rfl
  · rfl
  · intro p i sz o hp hi; simp only [Tm.den, hp, hi]
  · intro o a b ha hb; simp only [Tm.den, ha, hb]
  · intro o a ha; simp only [Tm.den, ha]
  · intro f l hl; simp only [Tm.den, hl, hf]
  · rfl
  · intro a l ha hl; simp only [dens, ha, hl]
theorem dens_same {E F : Env} (hv : F.var = E.var) (hf : F.fn = E.fn) (l : List Tm) : dens F l = dens E l := by
  induction l with
  | nil => rfl
  | cons a l ih => simp only [dens, den_same hv hf, ih]

/-- Names and memory turn, but for what the objects take up. -/
theorem XOk.move {K : Fix} {E F : Env} {x : Sx} {w w' : World} (h : XOk K E x w) (hv : F.var = E.var) (hf : F.fn = E.fn) (hp : F.fp = E.fp) (hq : F.pp = E.pp)
    (hr : ∀ b c, F.rho b = some c → (∃ b', E.rho b' = some c) ∨ FreeX E x c) (hs : w.heap.size ≤ w'.heap.size)
    (hw : ∀ c, c < w.heap.size → (∀ b, E.rho b ≠ some c) → w'.heap[c]? = w.heap[c]?) : XOk K F x w' := by
  refine ⟨hf.trans h.fn, fun i o ho => ?_, ?_, ?_, fun i b c hi hb => ?_, fun i c hi hc => ?_, fun i c hi hc => ?_, fun p hp' => ?_, ?_, ?_⟩
  · obtain ⟨v, gs, h1, h2, h3⟩ := h.objs i o ho
    have hi := (List.getElem?_eq_some_iff.1 ho).1
    refine ⟨v, gs, by rw [den_same hv hf]; exact h1, by rw [dens_same hv hf]; exact h2, ?_⟩
    rw [hp, hq]
    refine K.ob.frame _ _ _ _ _ _ _ h3 fun c hc => hw c ?_ fun b hb => ?_
    · rcases hc with hc | hc
      · exact (h.obnd i c hi hc).2
      · exact h.pbnd i c hi hc
    · rcases hc with hc | hc
      · exact (h.onam i b c hi hb).1 hc
      · exact (h.onam i b c hi hb).2 hc
  · rw [hp]; exact h.odis
  · rw [hp, hq]; exact h.opp
  · rw [hp, hq]
    rcases hr b c hb with ⟨b', g⟩ | g
    · exact h.onam i b' c hi g
    · exact g i hi
  · rw [hp] at hc
    have := h.obnd i c hi hc
    exact ⟨this.1, by omega⟩
  · rw [hq] at hc
    have := h.pbnd i c hi hc
    omega
  · rw [den_same hv hf]; exact h.conds p hp'
  · rw [hv]; exact h.vars
  · rw [hv]; exact h.base

theorem XOk.fresh {K : Fix} {E : Env} {x : Sx} {w : World} (h : XOk K E x w) {c : Nat} (hc : w.heap.size ≤ c) : FreeX E x c :=
  fun i hi => ⟨fun g => by have := (h.obnd i c hi g).2; omega, fun g => by have := h.pbnd i c hi g; omega⟩

structure Ok (K : Fix) (E : Env) (S : St) (X : List (List Value)) (w : World) : Prop where
  dom : ∀ b, (E.rho b).isSome → b < S.heap.length
  obj : ∀ b o, S.heap[b]? = some o → ∃ c x, E.rho b = some c ∧ K.n0 ≤ c ∧ w.heap[c]? = some x ∧ OR E o x
  inj : ∀ b b' c, E.rho b = some c → E.rho b' = some c → b = b'
  kdom : ∀ q, (E.kap q).isSome → q < S.caps.length
  lb : ∀ q l, S.caps[q]? = some l → ∃ n, E.kap q = some n ∧ l ≤ n ∧ n ≤ 9223372036854775807
  below : Below K.n0 K.w0 w
  base : K.n0 ≤ w.heap.size
  stk : SR E S.stk X
  x : XOk K E S.x w

theorem Ok.lt {K E S X w} (h : Ok K E S X w) {b c : Nat} (hb : E.rho b = some c) : c < w.heap.size := by
  have hl := h.dom b (by simp [hb])
  obtain ⟨c', x, h1, _, h3, _⟩ := h.obj b S.heap[b] (by simp [hl])
  rw [hb] at h1; obtain rfl := Option.some.inj h1
  exact (Array.getElem?_eq_some_iff.1 h3).1

theorem Ok.globAt {K E S X w} (h : Ok K E S X w) {g : Nat} {l : List Value} (hg : K.glob g = some l) : ∀ i v, l[i]? = some v → w.cell? ⟨g, i, none⟩ = some v := by
  obtain ⟨h1, h2⟩ := K.hglob g l hg
  intro i v hv
  have := h2 i v hv
  simp only [World.cell?] at this ⊢
  rw [h.below.block g h1]; exact this

/-- A computation that asks nothing of the world. -/
def still {α : Type} (P : Program) : Sem α → Option α
  | .pure a => some a
  | .program k => still P (k P)
  | .mark _ k => still P k
  | _ => none

theorem still_run {α : Type} {P : Program} : ∀ {s : Sem α} {a : α}, still P s = some a → ∀ w, s.run P w = .ok a w
  | .pure _, a, h, w => by simp only [still, Option.some.injEq] at h; subst h; rfl
  | .program k, a, h, w => by simp only [still] at h; simpa only [Sem.run] using still_run h w
  | .mark _ k, a, h, w => by simp only [still] at h; simpa only [Sem.run] using still_run h w
  | .load .., _, h, _ => by simp [still] at h
  | .store .., _, h, _ => by simp [still] at h
  | .new .., _, h, _ => by simp [still] at h
  | .shape .., _, h, _ => by simp [still] at h
  | .freeze .., _, h, _ => by simp [still] at h
  | .frozen .., _, h, _ => by simp [still] at h
  | .getObj .., _, h, _ => by simp [still] at h
  | .setObj .., _, h, _ => by simp [still] at h
  | .choose .., _, h, _ => by simp [still] at h
  | .sys .., _, h, _ => by simp [still] at h
  | .halt .., _, h, _ => by simp [still] at h

end Go.Eng

namespace Go.Eng
open Go.RowKit

variable {P : Program} {K : Fix} {E F : Env} {S S' : St} {X : List (List Value)} {w w' : World} {a b v : AVal} {x y : Value} {t s : TypeId} {l r : List AVal} {xs : List Value} {i j n off f : Nat}

section runs
theorem run_underlying' {t : TypeId} {d : TypeDesc} (h : P.underlying t = some d) : (underlying t).run P w = .ok d w := by simp [underlying, h]
theorem run_typeInfo' {t : TypeId} {i : TypeInfo} (h : P.info? t = some i) : (typeInfo t).run P w = .ok i w := by simp [typeInfo, h]
theorem run_sizeOf' {t : TypeId} {i : TypeInfo} (h : P.info? t = some i) : (sizeOf t).run P w = .ok i.size w := by simp [sizeOf, run_typeInfo' h]
end runs

def isAggD : TypeDesc → Bool
  | .struct _ | .array _ _ => true
  | _ => false
theorem run_isAgg' {P : Program} {w : World} {t : TypeId} {d : TypeDesc} (h : P.underlying t = some d) : (isAgg t).run P w = .ok (isAggD d) w := by
  simp only [isAgg, Sem.run_bind, run_underlying' h, Result.andThen_ok]
  cases d <;> rfl

/-- A list's elements from a place on, so many, all there. -/
def sub (l : List AVal) (i n : Nat) : Option (List AVal) := if i + n ≤ l.length then some ((l.drop i).take n) else none

theorem sub_rel (h : VRs E l xs) (hs : sub l i n = some r) : VRs E r ((xs.drop i).take n) ∧ i + n ≤ xs.length := by
  unfold sub at hs
  split at hs
  · rename_i hle
    simp only [Option.some.injEq] at hs; subst hs
    exact ⟨(h.drop i).take n, by rw [← h.length]; exact hle⟩
  · simp at hs

def cellsOf : AObj → Option (List AVal)
  | .cells l _ _ _ => some l
  | _ => none

/-- What an own block's first cells are. -/
theorem Ok.cells (h : Ok K E S X w) {b c : Nat} {o : AObj} {l : List AVal} (hb : E.rho b = some c) (ho : S.heap[b]? = some o) (hl : cellsOf o = some l) :
    ∃ xs, VRs E l xs ∧ ∀ i, i < xs.length → w.cell? ⟨c, i, none⟩ = xs[i]? := by
  obtain ⟨c', x, h1, _, h3, h4⟩ := h.obj b o ho
  rw [hb] at h1; obtain rfl := Option.some.inj h1
  match o, hl, h4 with
  | .cells l e fz none, hl, h4 =>
    simp only [cellsOf, Option.some.injEq] at hl; subst hl
    obtain ⟨xs, r, rfl⟩ := h4
    refine ⟨xs, r, fun i hi => ?_⟩
    simp [World.cell?, h3]
  | .cells l e fz (some (q, s)), hl, h4 =>
    simp only [cellsOf, Option.some.injEq] at hl; subst hl
    obtain ⟨xs, t, n, r, _, _, rfl⟩ := h4
    refine ⟨xs, r, fun i hi => ?_⟩
    simp [World.cell?, h3, List.getElem?_append_left hi]

theorem run_loadCellsFrom {P : Program} {w : World} {a : Addr} : ∀ (xs : List Value) (i : Nat) (acc : Array Value),
    (∀ j, j < xs.length → w.cell? (a.add (i + j)) = xs[j]?) → (loadCellsFrom a i xs.length acc).run P w = .ok (acc ++ xs.toArray) w
  | [], i, acc, _ => by simp [loadCellsFrom]
  | x :: xs, i, acc, h => by
    have h0 := h 0 (by simp)
    simp only [Nat.add_zero, List.getElem?_cons_zero] at h0
    simp only [List.length_cons, loadCellsFrom, Sem.run_bind, run_load, h0, Result.andThen_ok]
    rw [run_loadCellsFrom xs (i + 1) (acc.push x) (fun j hj => by
      have := h (j + 1) (by simp; omega)
      rw [show i + 1 + j = i + (j + 1) by omega, this]; simp)]
    simp

theorem run_loadCells {P : Program} {w : World} {a : Addr} (xs : List Value) (h : ∀ j, j < xs.length → w.cell? (a.add j) = xs[j]?) :
    (loadCells a xs.length).run P w = .ok xs.toArray w := by
  rw [loadCells, run_loadCellsFrom xs 0 #[] (fun j hj => by simpa using h j hj)]; simp

theorem add_plain (c off n : Nat) : (⟨c, off, none⟩ : Addr).add n = ⟨c, off + n, none⟩ := by
  unfold Addr.add; split <;> simp_all

/-- A load. -/
def aload (P : Program) (K : Glb) (S : St) (t : TypeId) (a : AVal) : Option AVal := do
  let d ← P.underlying t
  match a with
  | .ptr b off =>
    let l ← cellsOf (← S.heap[b]?)
    if isAggD d then return .agg (← sub l off (← P.info? t).size) else l[off]?
  | .lit (.pointer (some ⟨g, off, none⟩)) =>
    let l ← K.glob g
    if isAggD d then return .agg (← sub (l.map .lit) off (← P.info? t).size) else (l[off]?).map .lit
  | _ => none

theorem aload_sound (h : Ok K E S X w) (ha : VR E a x) (hv : aload P K S t a = some v) :
    ∃ y, (Instr.loadAt t x).run P w = .ok y w ∧ VR E v y := by
  unfold aload at hv
  simp only [Option.bind_eq_bind, Option.bind_eq_some_iff] at hv
  obtain ⟨d, hd, hv⟩ := hv
  split at hv
  · rename_i b off
    simp only [VR] at ha; obtain ⟨c, hc, rfl⟩ := ha
    simp only [Option.bind_eq_some_iff] at hv
    obtain ⟨o, ho, l, hl, hv⟩ := hv
    obtain ⟨xs, hx, hcell⟩ := h.cells hc ho hl
    split at hv
    · rename_i hagg
      simp only [Option.bind_eq_some_iff] at hv
      obtain ⟨i, hi, r, hr, hv⟩ := hv
      simp only [Option.pure_def, Option.some.injEq] at hv; subst hv
      obtain ⟨r1, r2⟩ := sub_rel hx hr
      have hlen : ((xs.drop off).take i.size).length = i.size := by simp; omega
      refine ⟨.agg ((xs.drop off).take i.size).toArray, ?_, by simp only [VR]; exact ⟨_, r1, rfl⟩⟩
      have hlc := run_loadCells (P := P) (w := w) (a := ⟨c, off, none⟩) ((xs.drop off).take i.size) (fun j hj => by
        rw [add_plain, hcell _ (by omega)]
        rw [List.getElem?_take_of_lt (by omega), List.getElem?_drop])
      rw [hlen] at hlc
      simp [Instr.loadAt, Instr.sureAddr, loadVar, run_isAgg' hd, hagg, run_sizeOf' hi, hlc]
    · rename_i hagg
      obtain ⟨y, hy, hr⟩ := hx.get hv
      have hlt : off < xs.length := (List.getElem?_eq_some_iff.1 hy).1
      refine ⟨y, ?_, hr⟩
      have := hcell off hlt
      simp [Instr.loadAt, Instr.sureAddr, loadVar, run_isAgg' hd, hagg, this, hy]
  · rename_i g off
    simp only [VR] at ha; subst ha
    simp only [Option.bind_eq_some_iff] at hv
    obtain ⟨l, ho, hv⟩ := hv
    have hg := h.globAt ho
    have hcell : ∀ i, i < l.length → w.cell? ⟨g, i, none⟩ = l[i]? := fun i hi => by
      rw [List.getElem?_eq_getElem hi]; exact hg i _ (List.getElem?_eq_getElem hi)
    split at hv
    · rename_i hagg
      simp only [Option.bind_eq_some_iff] at hv
      obtain ⟨i, hi, r, hr, hv⟩ := hv
      simp only [Option.pure_def, Option.some.injEq] at hv; subst hv
      obtain ⟨r1, r2⟩ := sub_rel (E := E) (VRs.lits l) hr
      have hlen : ((l.drop off).take i.size).length = i.size := by simp at r2 ⊢; omega
      refine ⟨.agg ((l.drop off).take i.size).toArray, ?_, by simp only [VR]; exact ⟨_, r1, rfl⟩⟩
      have hlc := run_loadCells (P := P) (w := w) (a := ⟨g, off, none⟩) ((l.drop off).take i.size) (fun j hj => by
        rw [add_plain, hcell _ (by omega)]
        rw [List.getElem?_take_of_lt (by omega), List.getElem?_drop])
      rw [hlen] at hlc
      simp only [Instr.loadAt, Instr.sureAddr, loadVar, Sem.run_bind, Sem.run_pure, Result.andThen_ok, run_isAgg' hd, hagg, if_true, run_sizeOf' hi, hlc]
    · rename_i hagg
      simp only [Option.map_eq_some_iff] at hv
      obtain ⟨y, hy, rfl⟩ := hv
      refine ⟨y, ?_, by simp only [VR]⟩
      have := hcell off (List.getElem?_eq_some_iff.1 hy).1
      rw [hy] at this
      simp [Instr.loadAt, Instr.sureAddr, loadVar, run_isAgg' hd, hagg, this]
  · simp at hv

/-- A field's or an element's address. -/
def afieldAt (P : Program) (s : TypeId) (a : AVal) (f : Nat) : Option AVal :=
  match a with
  | .ptr b off =>
    match P.underlying s with
    | some (.struct fields) =>
      match fields[f]? with
      | some fd =>
        match P.info? fd.type with
        | some i => if i.size = 0 then none else some (.ptr b (off + fd.offset))
        | none => none
      | none => none
    | _ => none
  | .lit v => (still P (Instr.fieldAt s v f)).map .lit
  | _ => none

theorem afieldAt_sound (ha : VR E a x) (hv : afieldAt P s a f = some v) : ∃ y, (Instr.fieldAt s x f).run P w = .ok y w ∧ VR E v y := by
  unfold afieldAt at hv
  split at hv
  · rename_i b off
    simp only [VR] at ha; obtain ⟨c, hc, rfl⟩ := ha
    split at hv
    · rename_i fields hd
      split at hv
      · rename_i fd hfd
        split at hv
        · rename_i i hi
          split at hv
          · simp at hv
          · rename_i hz
            simp only [Option.some.injEq] at hv; subst hv
            refine ⟨.pointer (some ⟨c, off + fd.offset, none⟩), ?_, by simp only [VR]; exact ⟨c, hc, rfl⟩⟩
            simp [Instr.fieldAt, run_underlying' hd, hfd, Instr.sureAddr, fieldPlace, run_sizeOf' hi, hz, add_plain]
        · simp at hv
      · simp at hv
    · simp at hv
  · simp only [VR] at ha; subst ha
    simp only [Option.map_eq_some_iff] at hv
    obtain ⟨y, hy, rfl⟩ := hv
    exact ⟨y, still_run hy w, by simp only [VR]⟩
  · simp at hv

def aindexAt (P : Program) (t : TypeId) (a i : AVal) : Option AVal :=
  match a, i with
  | .slice b off len _ _, .lit (.int _ n) =>
    match P.underlying t with
    | some (.slice e) => match P.info? e with
      | some inf => if 0 ≤ n ∧ n < (len : Int) then some (.ptr b (off + n.toNat * inf.size)) else none
      | none => none
    | _ => none
  | .ptr b off, .lit (.int _ n) =>
    match P.underlying t with
    | some (.array len e) => match P.info? e with
      | some inf => if 0 ≤ n ∧ n < (len : Int) then some (.ptr b (off + n.toNat * inf.size)) else none
      | none => none
    | _ => none
  | .lit v, .lit n => (still P (Instr.indexAt t v n)).map .lit
  | _, _ => none

theorem aindexAt_sound {u : AVal} {z : Value} (ha : VR E a x) (hi : VR E u z) (hv : aindexAt P t a u = some v) : ∃ y, (Instr.indexAt t x z).run P w = .ok y w ∧ VR E v y := by
  unfold aindexAt at hv
  split at hv
  · rename_i b off len m q k n
    simp only [VR] at ha hi; obtain ⟨c, cap, hc, _, rfl⟩ := ha; subst hi
    split at hv
    · rename_i e hd
      split at hv
      · rename_i inf hinf
        split at hv
        · rename_i hb
          simp only [Option.some.injEq] at hv; subst hv
          refine ⟨.pointer (some ⟨c, off + n.toNat * inf.size, none⟩), ?_, by simp only [VR]; exact ⟨c, hc, rfl⟩⟩
          simp [Instr.indexAt, asIntOf, run_underlying' hd, hb, run_sizeOf' hinf, add_plain]
        · simp at hv
      · simp at hv
    · simp at hv
  · rename_i b off k n
    simp only [VR] at ha hi; obtain ⟨c, hc, rfl⟩ := ha; subst hi
    split at hv
    · rename_i len e hd
      split at hv
      · rename_i inf hinf
        split at hv
        · rename_i hb
          simp only [Option.some.injEq] at hv; subst hv
          refine ⟨.pointer (some ⟨c, off + n.toNat * inf.size, none⟩), ?_, by simp only [VR]; exact ⟨c, hc, rfl⟩⟩
          simp [Instr.indexAt, asIntOf, run_underlying' hd, Instr.sureAddr, hb, run_sizeOf' hinf, add_plain]
        · simp at hv
      · simp at hv
    · simp at hv
  · simp only [VR] at ha hi; subst ha; subst hi
    simp only [Option.map_eq_some_iff] at hv
    obtain ⟨y, hy, rfl⟩ := hv
    exact ⟨y, still_run hy w, by simp only [VR]⟩
  · simp at hv

/-- A part of a struct or an array. -/
def apart (P : Program) (t : TypeId) (l : List AVal) (off : Nat) : Option AVal := do
  let d ← P.underlying t
  if isAggD d then return .agg (← sub l off (← P.info? t).size) else l[off]?

theorem apart_sound (h : VRs E l xs) (hv : apart P t l off = some v) : ∃ y, (part t xs.toArray off).run P w = .ok y w ∧ VR E v y := by
  unfold apart at hv
  simp only [Option.bind_eq_bind, Option.bind_eq_some_iff] at hv
  obtain ⟨d, hd, hv⟩ := hv
  split at hv
  · rename_i hagg
    simp only [Option.bind_eq_some_iff] at hv
    obtain ⟨i, hi, r, hr, hv⟩ := hv
    simp only [Option.pure_def, Option.some.injEq] at hv; subst hv
    obtain ⟨r1, r2⟩ := sub_rel h hr
    refine ⟨.agg ((xs.drop off).take i.size).toArray, ?_, by simp only [VR]; exact ⟨_, r1, rfl⟩⟩
    simp [part, run_isAgg' hd, hagg, run_sizeOf' hi]
  · rename_i hagg
    obtain ⟨y, hy, hr⟩ := h.get hv
    refine ⟨y, ?_, hr⟩
    simp [part, run_isAgg' hd, hagg, hy]

def afield (P : Program) (t : TypeId) (a : AVal) (f : Nat) : Option AVal :=
  match a with
  | .agg l =>
    match P.underlying t with
    | some (.struct fields) => match fields[f]? with
      | some fd => apart P fd.type l fd.offset
      | none => none
    | _ => none
  | .lit v => (still P (Instr.field t v f)).map .lit
  | _ => none

theorem afield_sound (ha : VR E a x) (hv : afield P t a f = some v) : ∃ y, (Instr.field t x f).run P w = .ok y w ∧ VR E v y := by
  unfold afield at hv
  split at hv
  · simp only [VR] at ha; obtain ⟨xs, hx, rfl⟩ := ha
    split at hv
    · rename_i fields hd
      split at hv
      · rename_i fd hfd
        obtain ⟨y, h1, h2⟩ := apart_sound (w := w) hx hv
        refine ⟨y, ?_, h2⟩
        simp [Instr.field, run_underlying' hd, hfd, asAgg, h1]
      · simp at hv
    · simp at hv
  · simp only [VR] at ha; subst ha
    simp only [Option.map_eq_some_iff] at hv
    obtain ⟨y, hy, rfl⟩ := hv
    exact ⟨y, still_run hy w, by simp only [VR]⟩
  · simp at hv

def aindex (P : Program) (t : TypeId) (a i : AVal) : Option AVal :=
  match a, i with
  | .agg l, .lit (.int _ n) =>
    match P.underlying t with
    | some (.array len e) => match P.info? e with
      | some inf => if 0 ≤ n ∧ n < (len : Int) then apart P e l (n.toNat * inf.size) else none
      | none => none
    | _ => none
  | .lit v, .lit n => (still P (Instr.index t v n)).map .lit
  | _, _ => none

theorem aindex_sound {u : AVal} {z : Value} (ha : VR E a x) (hi : VR E u z) (hv : aindex P t a u = some v) : ∃ y, (Instr.index t x z).run P w = .ok y w ∧ VR E v y := by
  unfold aindex at hv
  split at hv
  · rename_i l k n
    simp only [VR] at ha hi; obtain ⟨xs, hx, rfl⟩ := ha; subst hi
    split at hv
    · rename_i len e hd
      split at hv
      · rename_i inf hinf
        split at hv
        · rename_i hb
          obtain ⟨y, h1, h2⟩ := apart_sound (w := w) hx hv
          refine ⟨y, ?_, h2⟩
          simp [Instr.index, asIntOf, run_underlying' hd, hb, run_sizeOf' hinf, h1]
        · simp at hv
      · simp at hv
    · simp at hv
  · simp only [VR] at ha hi; subst ha; subst hi
    simp only [Option.map_eq_some_iff] at hv
    obtain ⟨y, hy, rfl⟩ := hv
    exact ⟨y, still_run hy w, by simp only [VR]⟩
  · simp at hv

def aextract (P : Program) (a : AVal) (i : Nat) : Option AVal :=
  match a with
  | .tuple l => l[i]?
  | .lit v => (still P (Instr.extract v i)).map .lit
  | _ => none

theorem aextract_sound (ha : VR E a x) (hv : aextract P a i = some v) : ∃ y, (Instr.extract x i).run P w = .ok y w ∧ VR E v y := by
  unfold aextract at hv
  split at hv
  · simp only [VR] at ha; obtain ⟨xs, hx, rfl⟩ := ha
    obtain ⟨y, hy, hr⟩ := hx.get hv
    exact ⟨y, by simp [Instr.extract, hy], hr⟩
  · simp only [VR] at ha; subst ha
    simp only [Option.map_eq_some_iff] at hv
    obtain ⟨y, hy, rfl⟩ := hv
    exact ⟨y, still_run hy w, by simp only [VR]⟩
  · simp at hv

end Go.Eng

namespace Go.Eng
open Go.RowKit

variable {P : Program} {K : Fix} {E F : Env} {S S' : St} {X : List (List Value)} {w w' : World} {a b v : AVal} {x y : Value} {t s : TypeId} {l r : List AVal} {xs : List Value} {i j n off f : Nat}

theorem run_getObj_map {m : Nat} {es : Array MapEntry} {c : Nat} (h : w.heap[m]? = some (.map es c)) : (getObj m).run P w = .ok (.map es c) w := by
  simp [getObj, Sem.run, h]

theorem ER.length : ∀ {es : List AEnt} {ms : List MapEntry}, ER E es ms → es.length = ms.length
  | [], ms, h => by simp only [ER] at h; simp [h]
  | e :: es, ms, h => by
    simp only [ER] at h; obtain ⟨m, r, _, _, _, h4, rfl⟩ := h; simp [ER.length h4]

/-- Where a key stands among entries. -/
def afind (d : TypeDesc) (k : Value) : List AEnt → Nat → Option (Option (Nat × AVal))
  | [], _ => some none
  | e :: es, i =>
    match e.key with
    | .lit kv => match Instr.sameNow d k kv with
      | some true => some (some (i, e.val))
      | some false => afind d k es (i + 1)
      | none => none
    | _ => none

theorem afind_sound {d : TypeDesc} {k : Value} : ∀ {es : List AEnt} {ms : List MapEntry} {i : Nat} {r : Option (Nat × AVal)}, ER E es ms → afind d k es i = some r →
    match r with
    | none => Instr.findNow d k ms i = some none
    | some (j, v) => ∃ x, Instr.findNow d k ms i = some (some (j, x)) ∧ VR E v x ∧ i ≤ j ∧ j < i + es.length
  | [], ms, i, r, h, hf => by
    simp only [ER] at h; subst h
    simp only [afind, Option.some.injEq] at hf; subst hf
    rfl
  | e :: es, ms, i, r, h, hf => by
    simp only [ER] at h; obtain ⟨m, s, h1, h2, h3, h4, rfl⟩ := h
    unfold afind at hf
    split at hf
    · rename_i kv hk
      rw [hk] at h1; simp only [VR] at h1
      split at hf
      · rename_i hs
        simp only [Option.some.injEq] at hf; subst hf
        refine ⟨m.val, ?_, h2, Nat.le_refl _, by simp⟩
        simp only [Instr.findNow, h1, hs]
      · rename_i hs
        have := afind_sound h4 hf
        cases r with
        | none => simp only at this ⊢; simp only [Instr.findNow, h1, hs, this]
        | some p =>
          obtain ⟨x, t1, t2, t3, t4⟩ := this
          refine ⟨x, ?_, t2, by omega, by simp; omega⟩
          simp only [Instr.findNow, h1, hs, t1]
      · simp at hf
    · simp at hf

/-- 'm[k]'. -/
def alookup (P : Program) (S : St) (t : TypeId) (a k : AVal) (ok : Bool) : Option AVal :=
  match a, k with
  | .map b, .lit kv =>
    match P.underlying t, S.heap[b]? with
    | some (.map kt et), some (.map es _) =>
      match P.underlying kt with
      | none => none
      | some d =>
        match still P (Instr.checkKey es.isEmpty 10000 kt kv), afind d kv es 0, still P (zeroValue et) with
        | some _, some none, some z => some (if ok then .tuple [.lit z, .lit (.bool false)] else .lit z)
        | some _, some (some (_, v)), _ => some (if ok then .tuple [v, .lit (.bool true)] else v)
        | _, _, _ => none
    | _, _ => none
  | .lit v, .lit kv => (still P (Instr.lookup t v kv ok)).map .lit
  | _, _ => none

theorem VRs.two {p q : AVal} {y z : Value} (h : VR E p y) (k : VR E q z) : VR E (.tuple [p, q]) (.tuple #[y, z]) := by
  simp only [VR]; exact ⟨[y, z], VRs.cons h (VRs.cons k VRs.nil), rfl⟩

theorem ER.isEmpty {es : List AEnt} {ms : List MapEntry} (h : ER E es ms) : ms.toArray.isEmpty = es.isEmpty := by
  have := h.length
  cases es <;> cases ms <;> simp_all

theorem alookup_sound {u : AVal} {z : Value} {ok : Bool} (h : Ok K E S X w) (ha : VR E a x) (hk : VR E u z) (hv : alookup P S t a u ok = some v) :
    ∃ y, (Instr.lookup t x z ok).run P w = .ok y w ∧ VR E v y := by
  unfold alookup at hv
  split at hv
  · rename_i b kv
    simp only [VR] at ha hk; obtain ⟨c, hc, rfl⟩ := ha; subst hk
    split at hv
    · rename_i kt et es clock hd ho
      obtain ⟨c', o, h1, _, h3, h4⟩ := h.obj _ _ ho
      rw [hc] at h1; obtain rfl := Option.some.inj h1
      obtain ⟨ms, hes, rfl⟩ := h4
      split at hv
      · simp at hv
      · rename_i d hkd
        split at hv
        · rename_i u1 zz hck hf hz
          have hfn := afind_sound hes hf
          simp only at hfn
          simp only [Option.some.injEq] at hv; subst hv
          refine ⟨if ok then .tuple #[zz, .bool false] else zz, ?_, ?_⟩
          · simp only [Instr.lookup, Sem.run_bind, run_underlying' hd, Result.andThen_ok, run_getObj_map h3, Sem.run_pure, hes.isEmpty, still_run hck, Instr.findKey, run_underlying' hkd, hfn, still_run hz]
          · cases ok
            · simp only [VR, Bool.false_eq_true, if_false]
            · simp only [if_true]; exact VRs.two (by simp only [VR]) (by simp only [VR])
        · rename_i u1 i v' oz hck hf
          obtain ⟨xv, hfn, hxv, _, _⟩ := afind_sound hes hf
          simp only [Option.some.injEq] at hv; subst hv
          refine ⟨if ok then .tuple #[xv, .bool true] else xv, ?_, ?_⟩
          · simp only [Instr.lookup, Sem.run_bind, run_underlying' hd, Result.andThen_ok, run_getObj_map h3, Sem.run_pure, hes.isEmpty, still_run hck, Instr.findKey, run_underlying' hkd, hfn]
          · cases ok
            · simp only [Bool.false_eq_true, if_false]; exact hxv
            · simp only [if_true]; exact VRs.two hxv (by simp only [VR])
        · simp at hv
    · simp at hv
  · simp only [VR] at ha hk; subst ha; subst hk
    simp only [Option.map_eq_some_iff] at hv
    obtain ⟨y, hy, rfl⟩ := hv
    exact ⟨y, still_run hy w, by simp only [VR]⟩
  · simp at hv

/-- Parts laid into a struct, an array or a row. -/
def afill (place : Nat → Option (Nat × Nat)) (cells : List AVal) : List (Nat × AVal) → Option (List AVal)
  | [] => some cells
  | (i, v) :: rest =>
    match place i with
    | none => none
    | some (off, size) =>
      if isTop v || v.cells.length ≠ size || decide (off + v.cells.length > cells.length) then none
      else afill place (cells.take off ++ v.cells ++ cells.drop (off + v.cells.length)) rest

theorem foldl_set {α : Type} : ∀ (vs : List α) (k off : Nat) (cells : List α), off + k + vs.length ≤ cells.length →
    (vs.zipIdx k).foldl (fun cs p => cs.set (off + p.2) p.1) cells = cells.take (off + k) ++ vs ++ cells.drop (off + k + vs.length)
  | [], k, off, cells, h => by simp
  | v :: vs, k, off, cells, h => by
    simp only [List.length_cons] at h
    rw [List.zipIdx_cons, List.foldl_cons, foldl_set vs (k + 1) off _ (by simp; omega)]
    simp only [List.length_cons]
    have e1 : off + (k + 1) = off + k + 1 := by omega
    rw [e1, List.take_add_one, List.take_set_of_le (Nat.le_refl _), List.getElem?_set_self (by omega)]
    rw [List.drop_set_of_lt (by omega)]
    rw [show off + k + (vs.length + 1) = off + k + 1 + vs.length by omega]
    simp only [Option.toList_some, List.append_assoc, List.cons_append, List.nil_append]

theorem foldl_setA {α : Type} (vs cells : Array α) (off : Nat) (h : off + vs.size ≤ cells.size) :
    vs.zipIdx.foldl (fun cs p => cs.setIfInBounds (off + p.2) p.1) cells = (cells.toList.take off ++ vs.toList ++ cells.toList.drop (off + vs.size)).toArray := by
  have key : ∀ (l : List (α × Nat)) (cs : Array α), l.foldl (fun cs p => cs.setIfInBounds (off + p.2) p.1) cs = (l.foldl (fun cs p => cs.set (off + p.2) p.1) cs.toList).toArray := by
    intro l
    induction l with
    | nil => intro cs; simp
    | cons p l ih => intro cs; simp only [List.foldl_cons, ih]; simp
  rw [← Array.foldl_toList, Array.toList_zipIdx, key, foldl_set vs.toList 0 off cells.toList (by simpa using h)]
  simp

def PR (E : Env) : List (Nat × AVal) → List (Nat × Value) → Prop
  | [], xs => xs = []
  | a :: l, xs => ∃ x r, VR E a.2 x ∧ PR E l r ∧ xs = (a.1, x) :: r

theorem afill_sound {place : Nat → Option (Nat × Nat)} : ∀ {ps : List (Nat × AVal)} {qs : List (Nat × Value)} {l : List AVal} {xs : List Value} {r : List AVal},
    PR E ps qs → VRs E l xs → afill place l ps = some r → ∃ ys, Instr.fill place xs.toArray qs = some ys.toArray ∧ VRs E r ys
  | [], qs, l, xs, r, hp, hl, hf => by
    simp only [PR] at hp; subst hp
    simp only [afill, Option.some.injEq] at hf; subst hf
    exact ⟨xs, by simp [Instr.fill], hl⟩
  | (i, v) :: ps, qs, l, xs, r, hp, hl, hf => by
    simp only [PR] at hp; obtain ⟨x, s, h1, h2, rfl⟩ := hp
    unfold afill at hf
    have hll := hl.length
    split at hf
    · simp at hf
    · rename_i off size hpl
      split at hf
      · simp at hf
      · rename_i hn
        simp only [ne_eq, Bool.or_eq_true, decide_eq_true_eq, not_or, Decidable.not_not, Nat.not_lt, Bool.not_eq_true] at hn
        obtain ⟨⟨hn0, hn1⟩, hn2⟩ := hn
        have hc := h1.cells (isTop_ne hn0)
        have hlen := hc.length
        have hsz : x.cells.size = size := by rw [← hn1, hlen]; simp
        have hle : off + x.cells.size ≤ xs.toArray.size := by simp; rw [hsz, ← hll, ← hn1]; exact hn2
        obtain ⟨ys, g1, g2⟩ := afill_sound h2 (((hl.take off).append hc).append (hl.drop (off + v.cells.length))) hf
        refine ⟨ys, ?_, g2⟩
        simp only [Instr.fill, hpl]
        rw [if_neg (by simp; simp at hle; omega), foldl_setA _ _ _ hle]
        rw [← g1]
        congr 1
        simp [hlen]

end Go.Eng

namespace Go.Eng
open Go.RowKit

variable {P : Program} {K : Fix} {E F : Env} {S S' : St} {X : List (List Value)} {w w' : World} {a b v : AVal} {x y : Value} {t s : TypeId}

/-! ### are two the same? -/

def allSame {α : Type} (f : α → α → Bool) : List α → List α → Bool
  | [], [] => true
  | x :: l, y :: m => f x y && allSame f l m
  | _, _ => false

theorem allSame_eq {α : Type} {f : α → α → Bool} (hf : ∀ x y, f x y = true → x = y) : ∀ {l m : List α}, allSame f l m = true → l = m
  | [], [], _ => rfl
  | x :: l, y :: m, h => by
    simp only [allSame, Bool.and_eq_true] at h
    rw [hf x y h.1, allSame_eq hf h.2]
  | [], _ :: _, h => by simp [allSame] at h
  | _ :: _, [], h => by simp [allSame] at h

def beqV : Nat → Value → Value → Bool
  | _, .bool a, .bool b => a == b
  | _, .int j a, .int k b => decide (j = k) && decide (a = b)
  | _, .float j a, .float k b => decide (j = k) && decide (a = b)
  | _, .string a, .string b => decide (a = b)
  | _, .pointer a, .pointer b => decide (a = b)
  | _, .slice a l c, .slice b m d => decide (a = b) && decide (l = m) && decide (c = d)
  | _, .map a, .map b => decide (a = b)
  | _, .nilFunc, .nilFunc => true
  | _, .nilIface, .nilIface => true
  | n + 1, .iface t x, .iface u y => decide (t = u) && beqV n x y
  | n + 1, .agg a, .agg b => allSame (beqV n) a.toList b.toList
  | n + 1, .tuple a, .tuple b => allSame (beqV n) a.toList b.toList
  | n + 1, .func f p q, .func g p' q' => decide (f = g) && allSame (beqV n) p.toList p'.toList && allSame (beqV n) q.toList q'.toList
  | _, _, _ => false

theorem beqV_eq : ∀ (n : Nat) (x y : Value), beqV n x y = true → x = y := by
  intro n
  induction n with
  | zero =>
    intro x y h
    cases x <;> cases y <;> simp_all [beqV]
  | succ n ih =>
    intro x y h
    cases x <;> cases y <;> simp only [beqV, Bool.and_eq_true, decide_eq_true_eq, beq_iff_eq, Bool.false_eq_true] at h
    all_goals first
      | (subst h; rfl)
      | (obtain ⟨h1, h2⟩ := h; subst h1; subst h2; rfl)
      | (obtain ⟨⟨h1, h2⟩, h3⟩ := h; subst h1; subst h2; subst h3; rfl)
      | rfl
      | (obtain ⟨h1, h2⟩ := h; rw [h1, ih _ _ h2])
      | (rw [Array.ext' (allSame_eq ih h)])
      | (obtain ⟨⟨h1, h2⟩, h3⟩ := h; rw [h1, Array.ext' (allSame_eq ih h2), Array.ext' (allSame_eq ih h3)])

theorem wf_bounds {k : IntKind} {z : Int} : (Lit.int k z).wf = true ↔ k.min ≤ z ∧ z ≤ k.max := by
  simp only [Lit.wf, Bool.and_eq_true, decide_eq_true_eq]

theorem wrap_in {k : IntKind} {z : Int} (h1 : k.min ≤ z) (h2 : z ≤ k.max) : k.wrap z = z := by
  cases k <;> simp only [IntKind.min, IntKind.max, IntKind.signed, IntKind.bits, IntKind.wrap, if_true, Bool.false_eq_true, if_false, Bool.true_and, Bool.false_and] at h1 h2 ⊢
  all_goals first
    | omega
    | (split <;> rename_i hh <;> simp only [ge_iff_le, decide_eq_true_eq] at hh <;> omega)

/-! ### terms: when two are one; what is known of one -/

mutual
def beqT : Tm → Tm → Bool
  | .var n, .var m => decide (n = m)
  | .int n, .int m => decide (n = m)
  | .bool n, .bool m => n == m
  | .str n, .str m => decide (n = m)
  | .rows n, .rows m => decide (n = m)
  | .nil, .nil => true
  | .elem h i s o, .elem h' i' s' o' => beqT h h' && beqT i i' && decide (s = s') && decide (o = o')
  | .bin o a b, .bin p c d => decide (o = p) && beqT a c && beqT b d
  | .un o a, .un p c => decide (o = p) && beqT a c
  | .app f l, .app g m => decide (f = g) && beqTs l m
  | _, _ => false
def beqTs : List Tm → List Tm → Bool
  | [], [] => true
  | x :: l, y :: m => beqT x y && beqTs l m
  | _, _ => false
end

mutual
theorem beqT_eq : ∀ (x y : Tm), beqT x y = true → x = y
  | .var n, y, h => by
    cases y <;> simp only [beqT, decide_eq_true_eq, Bool.false_eq_true] at h
    rw [h]
  | .int n, y, h => by
    cases y <;> simp only [beqT, decide_eq_true_eq, Bool.false_eq_true] at h
    rw [h]
  | .bool n, y, h => by
    cases y <;> simp only [beqT, beq_iff_eq, Bool.false_eq_true] at h
    rw [h]
  | .str n, y, h => by
    cases y <;> simp only [beqT, decide_eq_true_eq, Bool.false_eq_true] at h
    rw [h]
  | .rows n, y, h => by
    cases y <;> simp only [beqT, decide_eq_true_eq, Bool.false_eq_true] at h
    rw [h]
  | .nil, y, h => by
    cases y <;> simp only [beqT, Bool.false_eq_true] at h
    rfl
  | .elem p i s o, y, h => by
    cases y <;> simp only [beqT, Bool.and_eq_true, decide_eq_true_eq, Bool.false_eq_true] at h
    obtain ⟨⟨⟨h1, h2⟩, rfl⟩, rfl⟩ := h
    rw [beqT_eq _ _ h1, beqT_eq _ _ h2]
  | .bin o a b, y, h => by
    cases y <;> simp only [beqT, Bool.and_eq_true, decide_eq_true_eq, Bool.false_eq_true] at h
    rw [h.1.1, beqT_eq _ _ h.1.2, beqT_eq _ _ h.2]
  | .un o a, y, h => by
    cases y <;> simp only [beqT, Bool.and_eq_true, decide_eq_true_eq, Bool.false_eq_true] at h
    rw [h.1, beqT_eq _ _ h.2]
  | .app f l, y, h => by
    cases y <;> simp only [beqT, Bool.and_eq_true, decide_eq_true_eq, Bool.false_eq_true] at h
    rw [h.1, beqTs_eq _ _ h.2]
theorem beqTs_eq : ∀ (l m : List Tm), beqTs l m = true → l = m
  | [], [], _ => rfl
  | x :: l, y :: m, h => by
    simp only [beqTs, Bool.and_eq_true] at h
    rw [beqT_eq _ _ h.1, beqTs_eq _ _ h.2]
  | [], _ :: _, h => by simp [beqTs] at h
  | _ :: _, [], h => by simp [beqTs] at h
end

abbrev Conds := List (Tm × Bool)

def CondsOk (E : Env) (cs : Conds) : Prop := ∀ p ∈ cs, p.1.den E = some (.bool p.2)

def lookC : Conds → Tm → Option Bool
  | [], _ => none
  | p :: l, t => if beqT p.1 t then some p.2 else lookC l t

theorem lookC_sound : ∀ {cs : Conds} {t : Tm} {b : Bool}, CondsOk E cs → lookC cs t = some b → t.den E = some (.bool b)
  | [], t, b, _, h => by simp [lookC] at h
  | p :: l, t, b, hc, h => by
    simp only [lookC] at h
    split at h
    · rename_i hb
      have e := beqT_eq _ _ hb
      obtain rfl := Option.some.inj h
      rw [← e]; exact hc p (List.mem_cons_self ..)
    · exact lookC_sound (fun q hq => hc q (List.mem_cons_of_mem _ hq)) h

/-- Bounds that are literally known. -/
def lowOf (t : Tm) : Conds → Option Int
  | [] => none
  | p :: l =>
    let r := lowOf t l
    let u : Option Int := match p.1, p.2 with
      | .bin .lt a (.int c), false => if beqT a t then some c else none
      | .bin .lt (.int c) a, true => if beqT a t then some (c + 1) else none
      | .bin .eq a (.int c), true => if beqT a t then some c else none
      | _, _ => none
    match r, u with
    | some x, some y => some (max x y)
    | some x, none => some x
    | none, y => y

def highOf (t : Tm) : Conds → Option Int
  | [] => none
  | p :: l =>
    let r := highOf t l
    let u : Option Int := match p.1, p.2 with
      | .bin .lt a (.int c), true => if beqT a t then some (c - 1) else none
      | .bin .lt (.int c) a, false => if beqT a t then some c else none
      | .bin .eq a (.int c), true => if beqT a t then some c else none
      | _, _ => none
    match r, u with
    | some x, some y => some (min x y)
    | some x, none => some x
    | none, y => y

theorem den_lt {a b : Tm} {r : Bool} (h : (Tm.bin .lt a b).den E = some (.bool r)) : ∃ x y, a.den E = some (.int x) ∧ b.den E = some (.int y) ∧ r = decide (x < y) := by
  simp only [Tm.den] at h
  split at h
  · rename_i u v h1 h2
    cases u <;> cases v <;> simp only [TOp.den, reduceCtorEq, Option.some.injEq, U.bool.injEq] at h
    exact ⟨_, _, h1, h2, h.symm⟩
  · cases h

theorem den_eq_int {a b : Tm} {r : Bool} {c : Int} (h : (Tm.bin .eq a b).den E = some (.bool r)) (hb : b.den E = some (.int c)) : ∃ x, a.den E = some (.int x) ∧ r = decide (x = c) := by
  simp only [Tm.den, hb] at h
  split at h
  · rename_i u v h1 h2
    obtain rfl := Option.some.inj h2
    cases u <;> simp only [TOp.den, reduceCtorEq, Option.some.injEq, U.bool.injEq] at h
    exact ⟨_, h1, h.symm⟩
  · cases h

theorem lowOf_sound {t : Tm} {z : Int} (ht : t.den E = some (.int z)) : ∀ {cs : Conds} {c : Int}, CondsOk E cs → lowOf t cs = some c → c ≤ z
  | [], c, _, h => by simp [lowOf] at h
  | p :: l, c, hc, h => by
    have hl : CondsOk E l := fun q hq => hc q (List.mem_cons_of_mem _ hq)
    have hp := hc p (List.mem_cons_self ..)
    have hu : ∀ d, (match p.1, p.2 with
      | .bin .lt a (.int c), false => if beqT a t then some c else none
      | .bin .lt (.int c) a, true => if beqT a t then some (c + 1) else none
      | .bin .eq a (.int c), true => if beqT a t then some c else none
      | _, _ => none : Option Int) = some d → d ≤ z := by
      intro d hd
      obtain ⟨q, r⟩ := p
      simp only at hp hd
      split at hd
      · rename_i a c'
        split at hd
        · rename_i hb
          obtain rfl := beqT_eq _ _ hb
          obtain rfl := Option.some.inj hd
          obtain ⟨x, y, e1, e2, e3⟩ := den_lt hp
          rw [ht] at e1
          simp only [Tm.den, Option.some.injEq, U.int.injEq] at e1 e2
          subst e1 e2
          have := of_decide_eq_false e3.symm
          omega
        · cases hd
      · rename_i c' a
        split at hd
        · rename_i hb
          obtain rfl := beqT_eq _ _ hb
          obtain rfl := Option.some.inj hd
          obtain ⟨x, y, e1, e2, e3⟩ := den_lt hp
          rw [ht] at e2
          simp only [Tm.den, Option.some.injEq, U.int.injEq] at e1 e2
          subst e1 e2
          have := of_decide_eq_true e3.symm
          omega
        · cases hd
      · rename_i a c'
        split at hd
        · rename_i hb
          obtain rfl := beqT_eq _ _ hb
          obtain rfl := Option.some.inj hd
          obtain ⟨x, e1, e3⟩ := den_eq_int hp rfl
          rw [ht] at e1
          simp only [Option.some.injEq, U.int.injEq] at e1
          subst e1
          have := of_decide_eq_true e3.symm
          omega
        · cases hd
      · cases hd
    simp only [lowOf] at h
    split at h
    · rename_i x y h1 h2
      have g1 := lowOf_sound ht hl h1
      have g2 := hu _ h2
      obtain rfl := Option.some.inj h
      omega
    · rename_i x h1 h2
      obtain rfl := Option.some.inj h
      exact lowOf_sound ht hl h1
    · exact hu _ h

theorem highOf_sound {t : Tm} {z : Int} (ht : t.den E = some (.int z)) : ∀ {cs : Conds} {c : Int}, CondsOk E cs → highOf t cs = some c → z ≤ c
  | [], c, _, h => by simp [highOf] at h
  | p :: l, c, hc, h => by
    have hl : CondsOk E l := fun q hq => hc q (List.mem_cons_of_mem _ hq)
    have hp := hc p (List.mem_cons_self ..)
    have hu : ∀ d, (match p.1, p.2 with
      | .bin .lt a (.int c), true => if beqT a t then some (c - 1) else none
      | .bin .lt (.int c) a, false => if beqT a t then some c else none
      | .bin .eq a (.int c), true => if beqT a t then some c else none
      | _, _ => none : Option Int) = some d → z ≤ d := by
      intro d hd
      obtain ⟨q, r⟩ := p
      simp only at hp hd
      split at hd
      · rename_i a c'
        split at hd
        · rename_i hb
          obtain rfl := beqT_eq _ _ hb
          obtain rfl := Option.some.inj hd
          obtain ⟨x, y, e1, e2, e3⟩ := den_lt hp
          rw [ht] at e1
          simp only [Tm.den, Option.some.injEq, U.int.injEq] at e1 e2
          subst e1 e2
          have := of_decide_eq_true e3.symm
          omega
        · cases hd
      · rename_i c' a
        split at hd
        · rename_i hb
          obtain rfl := beqT_eq _ _ hb
          obtain rfl := Option.some.inj hd
          obtain ⟨x, y, e1, e2, e3⟩ := den_lt hp
          rw [ht] at e2
          simp only [Tm.den, Option.some.injEq, U.int.injEq] at e1 e2
          subst e1 e2
          have := of_decide_eq_false e3.symm
          omega
        · cases hd
      · rename_i a c'
        split at hd
        · rename_i hb
          obtain rfl := beqT_eq _ _ hb
          obtain rfl := Option.some.inj hd
          obtain ⟨x, e1, e3⟩ := den_eq_int hp rfl
          rw [ht] at e1
          simp only [Option.some.injEq, U.int.injEq] at e1
          subst e1
          have := of_decide_eq_true e3.symm
          omega
        · cases hd
      · cases hd
    simp only [highOf] at h
    split at h
    · rename_i x y h1 h2
      have g1 := highOf_sound ht hl h1
      have g2 := hu _ h2
      obtain rfl := Option.some.inj h
      omega
    · rename_i x h1 h2
      obtain rfl := Option.some.inj h
      exact highOf_sound ht hl h1
    · exact hu _ h

theorem lowOf_int {t : Tm} : ∀ {cs : Conds} {c : Int}, CondsOk E cs → lowOf t cs = some c → ∃ z, t.den E = some (.int z)
  | [], c, _, h => by simp [lowOf] at h
  | p :: l, c, hc, h => by
    have hl : CondsOk E l := fun q hq => hc q (List.mem_cons_of_mem _ hq)
    have hp := hc p (List.mem_cons_self ..)
    have hu : ∀ d, (match p.1, p.2 with
      | .bin .lt a (.int c), false => if beqT a t then some (c) else none
      | .bin .lt (.int c) a, true => if beqT a t then some (c + 1) else none
      | .bin .eq a (.int c), true => if beqT a t then some c else none
      | _, _ => none : Option Int) = some d → ∃ z, t.den E = some (.int z) := by
      intro d hd
      obtain ⟨q, r⟩ := p
      simp only at hp hd
      split at hd
      · split at hd
        · rename_i hb
          obtain rfl := beqT_eq _ _ hb
          obtain ⟨x, y, e1, e2, e3⟩ := den_lt hp
          exact ⟨_, e1⟩
        · cases hd
      · split at hd
        · rename_i hb
          obtain rfl := beqT_eq _ _ hb
          obtain ⟨x, y, e1, e2, e3⟩ := den_lt hp
          exact ⟨_, e2⟩
        · cases hd
      · split at hd
        · rename_i hb
          obtain rfl := beqT_eq _ _ hb
          obtain ⟨x, e1, e3⟩ := den_eq_int hp rfl
          exact ⟨_, e1⟩
        · cases hd
      · cases hd
    simp only [lowOf] at h
    split at h
    · rename_i x y h1 h2
      exact hu _ h2
    · rename_i x h1 h2
      exact lowOf_int hl h1
    · exact hu _ h

theorem highOf_int {t : Tm} : ∀ {cs : Conds} {c : Int}, CondsOk E cs → highOf t cs = some c → ∃ z, t.den E = some (.int z)
  | [], c, _, h => by simp [highOf] at h
  | p :: l, c, hc, h => by
    have hl : CondsOk E l := fun q hq => hc q (List.mem_cons_of_mem _ hq)
    have hp := hc p (List.mem_cons_self ..)
    have hu : ∀ d, (match p.1, p.2 with
      | .bin .lt a (.int c), true => if beqT a t then some (c - 1) else none
      | .bin .lt (.int c) a, false => if beqT a t then some (c) else none
      | .bin .eq a (.int c), true => if beqT a t then some c else none
      | _, _ => none : Option Int) = some d → ∃ z, t.den E = some (.int z) := by
      intro d hd
      obtain ⟨q, r⟩ := p
      simp only at hp hd
      split at hd
      · split at hd
        · rename_i hb
          obtain rfl := beqT_eq _ _ hb
          obtain ⟨x, y, e1, e2, e3⟩ := den_lt hp
          exact ⟨_, e1⟩
        · cases hd
      · split at hd
        · rename_i hb
          obtain rfl := beqT_eq _ _ hb
          obtain ⟨x, y, e1, e2, e3⟩ := den_lt hp
          exact ⟨_, e2⟩
        · cases hd
      · split at hd
        · rename_i hb
          obtain rfl := beqT_eq _ _ hb
          obtain ⟨x, e1, e3⟩ := den_eq_int hp rfl
          exact ⟨_, e1⟩
        · cases hd
      · cases hd
    simp only [highOf] at h
    split at h
    · rename_i x y h1 h2
      exact hu _ h2
    · rename_i x h1 h2
      exact highOf_int hl h1
    · exact hu _ h

/-- What a list was made of, and how many rows more it may have. -/
def lenBase : Tm → Tm × Nat
  | .app 0 (g :: _) => ((lenBase g).1, (lenBase g).2 + 1)
  | .app 1 [g, _] => lenBase g
  | .app 2 (g :: _) => ((lenBase g).1, (lenBase g).2 + 1)
  | .app 3 (g :: _) => lenBase g
  | .app 4 [g, _] => lenBase g
  | .app 5 [g, _] => lenBase g
  | .app f (g :: l) => if 6 ≤ f ∧ f % 4 ≠ 3 then ((lenBase g).1, (lenBase g).2 + f % 4) else (.app f (g :: l), 0)
  | t => (t, 0)

/-- How great a number may be, by another one that it is below. -/
def hiLt (i : Tm) (cs : Conds) : Conds → Option Int
  | [] => none
  | p :: l =>
    let u : Option Int := match p.1, p.2 with
      | .bin .lt a t, true => if beqT a i then (highOf t cs).map fun c => c - 1 else none
      | _, _ => none
    match u with
    | some y => some y
    | none => hiLt i cs l

def hiVar (cs : Conds) (i : Tm) : Option Int :=
  match i with
  | .int z => some z
  | i => match highOf i cs with
    | some c => some c
    | none => hiLt i cs cs

/-- How long a list may be, by what it is bounded with. -/
def growHi (cs : Conds) (b : Tm) : Conds → Option Int
  | [] => none
  | p :: l =>
    let u : Option Int := match p.1, p.2 with
      | .bin (.grow k c) i b', true => if beqT b' b then (hiVar cs i).map fun h => (k : Int) * h + c else none
      | _, _ => none
    match u with
    | some y => some y
    | none => growHi cs b l

/-- How long a list may be. -/
def lenHi (cs : Conds) (t : Tm) : Option Int :=
  match highOf (.un .len t) cs with
  | some c => some c
  | none => match lenBase t with
    | (.rows l, n) => some (l.length + n)
    | (u, n) => match highOf (.un .len u) cs with
      | some c => some (c + n)
      | none => (growHi cs u cs).map fun c => c + n

theorem rput_len (k : Int) (zs : List Int) : ∀ l : List (List Int), (rput k zs l).length ≤ l.length + 1
  | [] => by simp [rput]
  | r :: l => by
    unfold rput
    split
    · simp
    · split
      · simp
      · have := rput_len k zs l; simp; omega
theorem rdel_len (k : Int) : ∀ l : List (List Int), (rdel k l).length ≤ l.length
  | [] => by simp [rdel]
  | r :: l => by
    unfold rdel
    split
    · simp
    · have := rdel_len k l; simp; omega

theorem den_app_cons {f : Nat} {g : Tm} {ts : List Tm} {l : List (List Int)} (h : (Tm.app f (g :: ts)).den E = some (.rows l)) : ∃ u us, g.den E = some u ∧ dens E ts = some us ∧ appF E.fn f (u :: us) = some (.rows l) := by
  simp only [Tm.den, dens] at h
  split at h
  · rename_i xs hxs
    split at hxs
    · rename_i u us h1 h2
      obtain rfl := Option.some.inj hxs
      exact ⟨u, us, h1, h2, h⟩
    · cases hxs
  · cases h

theorem lenBase_sound (t : Tm) : ∀ {l : List (List Int)}, t.den E = some (.rows l) → ∃ l0, (lenBase t).1.den E = some (.rows l0) ∧ l.length ≤ l0.length + (lenBase t).2 := by
  induction t using lenBase.induct with
  | case1 g ts ih =>
    intro l ht
    obtain ⟨u, us, e1, e2, e3⟩ := den_app_cons ht
    simp only [appF] at e3
    split at e3
    · rename_i l' k vs heq
      simp only [List.cons.injEq] at heq
      obtain ⟨rfl, rfl⟩ := heq
      simp only [Option.map_eq_some_iff, U.rows.injEq] at e3
      obtain ⟨zs, _, rfl⟩ := e3
      obtain ⟨l0, g1, g2⟩ := ih e1
      have := rput_len k zs l'
      exact ⟨l0, g1, by simp only [lenBase]; omega⟩
    · cases e3
  | case2 g k ih =>
    intro l ht
    obtain ⟨u, us, e1, e2, e3⟩ := den_app_cons ht
    simp only [appF] at e3
    split at e3
    · rename_i l' kk heq
      simp only [List.cons.injEq] at heq
      obtain ⟨rfl, _⟩ := heq
      simp only [Option.some.injEq, U.rows.injEq] at e3
      subst e3
      obtain ⟨l0, g1, g2⟩ := ih e1
      have := rdel_len kk l'
      exact ⟨l0, g1, by simp only [lenBase]; omega⟩
    · cases e3
  | case3 g ts ih =>
    intro l ht
    obtain ⟨u, us, e1, e2, e3⟩ := den_app_cons ht
    simp only [appF] at e3
    split at e3
    · rename_i l' vs heq
      simp only [List.cons.injEq] at heq
      obtain ⟨rfl, rfl⟩ := heq
      simp only [Option.map_eq_some_iff, U.rows.injEq] at e3
      obtain ⟨zs, _, rfl⟩ := e3
      obtain ⟨l0, g1, g2⟩ := ih e1
      exact ⟨l0, g1, by simp only [lenBase, List.length_append, List.length_singleton]; omega⟩
    · cases e3
  | case4 g ts ih =>
    intro l ht
    obtain ⟨u, us, e1, e2, e3⟩ := den_app_cons ht
    simp only [appF] at e3
    split at e3
    · rename_i l' i cc vs heq
      simp only [List.cons.injEq] at heq
      obtain ⟨rfl, _⟩ := heq
      simp only [Option.bind_eq_some_iff] at e3
      obtain ⟨zs, _, e4⟩ := e3
      split at e4
      · simp only [Option.some.injEq, U.rows.injEq] at e4
        subst e4
        obtain ⟨l0, g1, g2⟩ := ih e1
        exact ⟨l0, g1, by simp only [lenBase, List.length_modify]; omega⟩
      · cases e4
    · cases e3
  | case5 g k ih =>
    intro l ht
    obtain ⟨u, us, e1, e2, e3⟩ := den_app_cons ht
    simp only [appF] at e3
    split at e3
    · rename_i l' n heq
      simp only [List.cons.injEq] at heq
      obtain ⟨rfl, _⟩ := heq
      simp only [Option.some.injEq, U.rows.injEq] at e3
      subst e3
      obtain ⟨l0, g1, g2⟩ := ih e1
      exact ⟨l0, g1, by simp only [lenBase, List.length_drop]; omega⟩
    · cases e3
  | case6 g k ih =>
    intro l ht
    obtain ⟨u, us, e1, e2, e3⟩ := den_app_cons ht
    simp only [appF] at e3
    split at e3
    · rename_i l' n heq
      simp only [List.cons.injEq] at heq
      obtain ⟨rfl, _⟩ := heq
      simp only [Option.some.injEq, U.rows.injEq] at e3
      subst e3
      obtain ⟨l0, g1, g2⟩ := ih e1
      exact ⟨l0, g1, by simp only [lenBase, List.length_take]; omega⟩
    · cases e3
  | case7 f g ts h1 h2 h3 h4 h5 h6 hf ih =>
    intro l ht
    obtain ⟨u, us, e1, e2, e3⟩ := den_app_cons ht
    have hlb : lenBase (.app f (g :: ts)) = ((lenBase g).1, (lenBase g).2 + f % 4) := by
      rw [lenBase.eq_7 f g ts h1 h2 h3 h4 h5 h6, if_pos hf]
    have hap : appF E.fn f (u :: us) = (match E.fn f (u :: us), u :: us with
      | some (.rows l), u :: _ => if f % 4 = 3 then some (.rows l) else (match u with
        | .rows l0 => if l.length ≤ l0.length + f % 4 then some (.rows l) else none
        | _ => none)
      | r, _ => r) := by
      unfold appF
      split <;> first | omega | rfl
    rw [hap] at e3
    rw [hlb]
    split at e3
    · rename_i l' u' us' hfn heq
      simp only [List.cons.injEq] at heq
      obtain ⟨rfl, rfl⟩ := heq
      rw [if_neg hf.2] at e3
      split at e3
      · rename_i l0
        split at e3
        · rename_i hle
          simp only [Option.some.injEq, U.rows.injEq] at e3
          subst e3
          obtain ⟨l1, g1, g2⟩ := ih e1
          exact ⟨l1, g1, by simp only; omega⟩
        · cases e3
      · cases e3
    · rename_i hne
      exact absurd rfl (hne _ _ _ e3)
  | case8 f g ts h1 h2 h3 h4 h5 h6 hf =>
    intro l ht
    rw [lenBase.eq_7 f g ts h1 h2 h3 h4 h5 h6, if_neg hf]
    exact ⟨l, ht, by simp⟩
  | case9 t h1 h2 h3 h4 h5 h6 h7 =>
    intro l ht
    rw [lenBase.eq_8 t h1 h2 h3 h4 h5 h6 h7]
    exact ⟨l, ht, by simp⟩

theorem hiLt_sound {i : Tm} {cs : Conds} (hc : CondsOk E cs) : ∀ {l : Conds} {c : Int}, CondsOk E l → hiLt i cs l = some c → ∃ z, i.den E = some (.int z) ∧ z ≤ c
  | [], c, _, h => by simp [hiLt] at h
  | p :: l, c, hl, h => by
    have hp := hl p (List.mem_cons_self ..)
    simp only [hiLt] at h
    split at h
    · rename_i y hy
      obtain rfl := Option.some.inj h
      obtain ⟨q, r⟩ := p
      simp only at hp hy
      split at hy
      · rename_i a t
        split at hy
        · rename_i hb
          obtain rfl := beqT_eq _ _ hb
          simp only [Option.map_eq_some_iff] at hy
          obtain ⟨c', h1, rfl⟩ := hy
          obtain ⟨x, z, e1, e2, e3⟩ := den_lt hp
          have := highOf_sound e2 hc h1
          have := of_decide_eq_true e3.symm
          exact ⟨x, e1, by omega⟩
        · cases hy
      · cases hy
    · exact hiLt_sound hc (fun q hq => hl q (List.mem_cons_of_mem _ hq)) h

theorem hiVar_sound {i : Tm} {cs : Conds} {c : Int} (hc : CondsOk E cs) (h : hiVar cs i = some c) : ∃ z, i.den E = some (.int z) ∧ z ≤ c := by
  unfold hiVar at h
  split at h
  · obtain rfl := Option.some.inj h
    exact ⟨_, rfl, Int.le_refl _⟩
  · split at h
    · rename_i c' hc'
      obtain rfl := Option.some.inj h
      obtain ⟨z, hz⟩ := highOf_int hc hc'
      exact ⟨z, hz, highOf_sound hz hc hc'⟩
    · exact hiLt_sound hc hc h

theorem growB_true {k c : Nat} {i : Int} {l : List (List Int)} (h : growB k c (.int i) (.rows l) = true) : (l.length : Int) ≤ k * i + c := by
  simp only [growB, decide_eq_true_eq] at h; exact h

theorem den_growT {k c : Nat} {i b : Tm} {r : Bool} (h : (Tm.bin (.grow k c) i b).den E = some (.bool r)) : ∃ x y, i.den E = some x ∧ b.den E = some y ∧ r = growB k c x y := by
  simp only [Tm.den] at h
  split at h
  · rename_i u v h1 h2
    simp only [TOp.den, Option.some.injEq, U.bool.injEq] at h
    exact ⟨u, v, h1, h2, h.symm⟩
  · cases h

theorem growHi_sound {b : Tm} {cs : Conds} {l0 : List (List Int)} (hc : CondsOk E cs) (hb : b.den E = some (.rows l0)) : ∀ {l : Conds} {c : Int}, CondsOk E l → growHi cs b l = some c → (l0.length : Int) ≤ c
  | [], c, _, h => by simp [growHi] at h
  | p :: l, c, hl, h => by
    have hp := hl p (List.mem_cons_self ..)
    simp only [growHi] at h
    split at h
    · rename_i y hy
      obtain rfl := Option.some.inj h
      obtain ⟨q, r⟩ := p
      simp only at hp hy
      split at hy
      · rename_i k c' i b'
        split at hy
        · rename_i hbb
          obtain rfl := beqT_eq _ _ hbb
          simp only [Option.map_eq_some_iff] at hy
          obtain ⟨h', h1, rfl⟩ := hy
          obtain ⟨z, e1, e2⟩ := hiVar_sound hc h1
          obtain ⟨x, y, f1, f2, f3⟩ := den_growT hp
          rw [e1] at f1
          rw [hb] at f2
          obtain rfl := Option.some.inj f1
          obtain rfl := Option.some.inj f2
          have g := growB_true f3.symm
          have := Int.mul_le_mul_of_nonneg_left e2 (Int.natCast_nonneg k)
          omega
        · cases hy
      · cases hy
    · exact growHi_sound hc hb (fun q hq => hl q (List.mem_cons_of_mem _ hq)) h

theorem lenHi_sound {cs : Conds} {t : Tm} {l : List (List Int)} {c : Int} (hc : CondsOk E cs) (ht : t.den E = some (.rows l)) (h : lenHi cs t = some c) : (l.length : Int) ≤ c := by
  have base : ∀ {t : Tm} {l : List (List Int)} {c : Int}, t.den E = some (.rows l) → highOf (.un .len t) cs = some c → (l.length : Int) ≤ c := by
    intro t l c ht h
    exact highOf_sound (t := .un .len t) (z := l.length) (by simp only [Tm.den, ht, TUn.den]) hc h
  unfold lenHi at h
  split at h
  · rename_i c' hc'
    obtain rfl := Option.some.inj h
    exact base ht hc'
  · obtain ⟨l0, g1, g2⟩ := lenBase_sound t ht
    split at h
    · rename_i l' n hb
      rw [hb] at g1 g2
      simp only [Tm.den, Option.some.injEq, U.rows.injEq] at g1 h
      subst g1
      simp only at g2
      omega
    · rename_i u n hb
      rw [hb] at g1 g2
      split at h
      · rename_i c' h1
        obtain rfl := Option.some.inj h
        have := base g1 h1
        simp only at g2
        omega
      · simp only [Option.map_eq_some_iff] at h
        obtain ⟨c', h1, rfl⟩ := h
        have := growHi_sound hc g1 hc h1
        simp only at g2
        omega

def lowB (cs : Conds) : Tm → Option Int
  | .int z => some z
  | .un .len g => match lowOf (.un .len g) cs with
    | some c => some (max c 0)
    | none => some 0
  | t => lowOf t cs
/-- A sum that does not wrap: the first part's lowest, and highest. -/
def sumOf (cs : Conds) (k : IntKind) (i : Tm) (d : Int) : Option (Int × Int) :=
  match lowB cs i, hiVar cs i with
  | some l, some h => if 0 ≤ d ∧ (Lit.int k l).wf = true ∧ (Lit.int k (h + d)).wf = true then some (l, h) else none
  | _, _ => none

def highB (cs : Conds) : Tm → Option Int
  | .int z => some z
  | .un .len g => lenHi cs g
  | .bin (.ar .add k) i (.int d) => match highOf (.bin (.ar .add k) i (.int d)) cs with
    | some h => some h
    | none => (sumOf cs k i d).map fun p => p.2 + d
  | t => highOf t cs

theorem den_len {g : Tm} {z : Int} (h : (Tm.un .len g).den E = some (.int z)) : ∃ l, g.den E = some (.rows l) ∧ z = l.length := by
  simp only [Tm.den] at h
  split at h
  · rename_i u hu
    cases u <;> simp only [TUn.den, reduceCtorEq, Option.some.injEq, U.int.injEq] at h
    exact ⟨_, hu, h.symm⟩
  · cases h

theorem lowB_sound {cs : Conds} {t : Tm} {z c : Int} (ht : t.den E = some (.int z)) (hc : CondsOk E cs) (h : lowB cs t = some c) : c ≤ z := by
  unfold lowB at h
  split at h
  · simp only [Tm.den, Option.some.injEq, U.int.injEq] at ht h; omega
  · obtain ⟨l, h1, h2⟩ := den_len ht
    split at h
    · rename_i c' hc'
      have := lowOf_sound ht hc hc'
      obtain rfl := Option.some.inj h
      omega
    · obtain rfl := Option.some.inj h
      omega
  · exact lowOf_sound ht hc h
theorem sumOf_sound {cs : Conds} {k : IntKind} {i : Tm} {d l h : Int} (hc : CondsOk E cs) (hs : sumOf cs k i d = some (l, h)) :
    ∃ z, i.den E = some (.int z) ∧ l ≤ z ∧ z ≤ h ∧ 0 ≤ d ∧ (Tm.bin (.ar .add k) i (.int d)).den E = some (.int (z + d)) := by
  unfold sumOf at hs
  split at hs
  · rename_i l' h' h1 h2
    split at hs
    · rename_i hw
      obtain ⟨g1, g2, g3⟩ := hw
      simp only [Option.some.injEq, Prod.mk.injEq] at hs
      obtain ⟨rfl, rfl⟩ := hs
      obtain ⟨z, e1, e2⟩ := hiVar_sound hc h2
      have e3 := lowB_sound e1 hc h1
      rw [wf_bounds] at g2 g3
      refine ⟨z, e1, e3, e2, g1, ?_⟩
      simp only [Tm.den, e1, TOp.den]
      rw [wrap_in (by omega) (by omega)]
    · cases hs
  · cases hs

theorem highB_sound {cs : Conds} {t : Tm} {z c : Int} (ht : t.den E = some (.int z)) (hc : CondsOk E cs) (h : highB cs t = some c) : z ≤ c := by
  unfold highB at h
  split at h
  · simp only [Tm.den, Option.some.injEq, U.int.injEq] at ht h; omega
  · obtain ⟨l, h1, h2⟩ := den_len ht
    rw [h2]; exact lenHi_sound hc h1 h
  · split at h
    · rename_i h' hh
      obtain rfl := Option.some.inj h
      exact highOf_sound ht hc hh
    · simp only [Option.map_eq_some_iff] at h
      obtain ⟨⟨l, h'⟩, h1, rfl⟩ := h
      obtain ⟨y, e1, e2, e3, e4, e5⟩ := sumOf_sound hc h1
      rw [ht] at e5
      simp only [Option.some.injEq, U.int.injEq] at e5
      simp only
      omega
  · exact highOf_sound ht hc h

/-- Is an equation of a string with another one known? -/
def otherStr (t : Tm) (s : ByteArray) : Conds → Bool
  | [] => false
  | p :: l => (match p.1, p.2 with
      | .bin .eq a (.str u), true => beqT a t && decide (u ≠ s)
      | _, _ => false) || otherStr t s l

theorem otherStr_sound {t : Tm} {s : ByteArray} : ∀ {cs : Conds}, CondsOk E cs → otherStr t s cs = true → ∃ u, t.den E = some (.str u) ∧ u ≠ s
  | [], _, h => by simp [otherStr] at h
  | p :: l, hc, h => by
    simp only [otherStr, Bool.or_eq_true] at h
    rcases h with h | h
    · have hp := hc p (List.mem_cons_self ..)
      obtain ⟨q, r⟩ := p
      simp only at hp h
      split at h
      · rename_i a u
        simp only [Bool.and_eq_true, decide_eq_true_eq] at h
        obtain rfl := beqT_eq _ _ h.1
        simp only [Tm.den] at hp
        split at hp
        · rename_i x y h1 h2
          obtain rfl := Option.some.inj h2
          cases x <;> simp only [TOp.den, reduceCtorEq, Option.some.injEq, U.bool.injEq] at hp
          have := of_decide_eq_true hp
          subst this
          exact ⟨_, h1, h.2⟩
        · cases hp
      · cases h
    · exact otherStr_sound (fun q hq => hc q (List.mem_cons_of_mem _ hq)) h

def ltKnown (cs : Conds) (a b : Tm) : Option Bool :=
  match highB cs a, lowB cs b with
  | some h, some l => if h < l then some true else (match lowB cs a, highB cs b with
    | some l, some h => if h ≤ l then some false else none
    | _, _ => none)
  | _, _ => match lowB cs a, highB cs b with
    | some l, some h => if h ≤ l then some false else none
    | _, _ => none

def isIntT : Tm → Bool
  | .int _ => true
  | _ => false

def apart2 (cs : Conds) (a b : Tm) : Bool :=
  ((isIntT a || isIntT b) && ((match highB cs a, lowB cs b with
    | some h, some l => decide (h < l)
    | _, _ => false) || (match highB cs b, lowB cs a with
    | some h, some l => decide (h < l)
    | _, _ => false))) || (match b with
    | .str s => otherStr a s cs
    | _ => false)

/-- A number, as another one and what is added. -/
def growIx (cs : Conds) : Tm → Tm × Int
  | .bin (.ar .add kk) i0 (.int d) => match sumOf cs kk i0 d with
    | some _ => (i0, d)
    | none => (.bin (.ar .add kk) i0 (.int d), 0)
  | i => (i, 0)

/-- Is a list bounded so? -/
def growKnown (cs : Conds) (k c : Nat) (i t : Tm) : Option Bool :=
  if lookC cs (.bin (.grow k c) (growIx cs i).1 (lenBase t).1) = some true ∧ ((lenBase t).2 : Int) ≤ k * (growIx cs i).2 then some true
  else match lowB cs i, lenHi cs t with
    | some lo, some h => if h ≤ k * lo + c then some true else none
    | _, _ => none

/-- What is known of a condition. -/
def known (cs : Conds) : Tm → Option Bool
  | .bool b => some b
  | .un .not a => (known cs a).map fun b => !b
  | .bin .eq a b =>
    match lookC cs (.bin .eq a b) with
    | some r => some r
    | none => if beqT a b then some true else (match a, b with
      | .str s, .str u => some (decide (s = u))
      | .bool s, .bool u => some (decide (s = u))
      | _, _ => if apart2 cs a b then some false else none)
  | .bin .lt a b =>
    match lookC cs (.bin .lt a b) with
    | some r => some r
    | none => if beqT a b then some false else ltKnown cs a b
  | .bin (.grow k c) i g =>
    match lookC cs (.bin (.grow k c) i g) with
    | some r => some r
    | none => growKnown cs k c i g
  | t => lookC cs t

theorem ltKnown_sound {cs : Conds} {a b : Tm} {r : Bool} {p q : Int} (hc : CondsOk E cs) (ha : a.den E = some (.int p)) (hb : b.den E = some (.int q)) (h : ltKnown cs a b = some r) : r = decide (p < q) := by
  unfold ltKnown at h
  split at h
  · rename_i x y h1 h2
    split at h
    · rename_i hlt
      have := highB_sound ha hc h1
      have := lowB_sound hb hc h2
      obtain rfl := Option.some.inj h
      exact (decide_eq_true (by omega)).symm
    · split at h
      · rename_i l' h' h3 h4
        split at h
        · have := lowB_sound ha hc h3
          have := highB_sound hb hc h4
          obtain rfl := Option.some.inj h
          exact (decide_eq_false (by omega)).symm
        · cases h
      · cases h
  · split at h
    · rename_i l' h' h3 h4
      split at h
      · have := lowB_sound ha hc h3
        have := highB_sound hb hc h4
        obtain rfl := Option.some.inj h
        exact (decide_eq_false (by omega)).symm
      · cases h
    · cases h

theorem growIx_sound {cs : Conds} {i : Tm} {x : Int} (hc : CondsOk E cs) (hi : i.den E = some (.int x)) : ∃ z, (growIx cs i).1.den E = some (.int z) ∧ x = z + (growIx cs i).2 := by
  unfold growIx
  split
  · split
    · rename_i p hp
      obtain ⟨l1, h1⟩ := p
      obtain ⟨z, e1, e2, e3, e4, e5⟩ := sumOf_sound hc hp
      rw [hi] at e5
      simp only [Option.some.injEq, U.int.injEq] at e5
      exact ⟨z, e1, e5⟩
    · exact ⟨x, hi, by simp⟩
  · exact ⟨x, hi, by simp⟩

theorem growKnown_true {cs : Conds} {k c : Nat} {i t : Tm} {b : Bool} (h : growKnown cs k c i t = some b) : b = true := by
  unfold growKnown at h
  split at h
  · exact (Option.some.inj h).symm
  · split at h
    · split at h
      · exact (Option.some.inj h).symm
      · cases h
    · cases h

theorem growKnown_sound {cs : Conds} {k c : Nat} {i t : Tm} {x y : U} {b : Bool} (hc : CondsOk E cs) (hi : i.den E = some x) (ht : t.den E = some y) (h : growKnown cs k c i t = some b) : growB k c x y = b := by
  have hb := growKnown_true h
  subst hb
  cases x with
  | int x => cases y with
    | rows l =>
      obtain ⟨l0, g1, g2⟩ := lenBase_sound t ht
      obtain ⟨z, f1, f2⟩ := growIx_sound hc hi
      unfold growKnown at h
      split at h
      · rename_i hcc
        obtain ⟨u, v, e1, e2, e3⟩ := den_growT (lookC_sound hc hcc.1)
        rw [f1] at e1
        rw [g1] at e2
        obtain rfl := Option.some.inj e1
        obtain rfl := Option.some.inj e2
        have e4 := growB_true e3.symm
        simp only [growB, decide_eq_true_eq]
        have := hcc.2
        rw [f2, Int.mul_add]
        omega
      · split at h
        · rename_i lo hh h1 h2
          split at h
          · rename_i hle
            have e1 := lowB_sound hi hc h1
            have e2 := lenHi_sound hc ht h2
            have := Int.mul_le_mul_of_nonneg_left e1 (Int.natCast_nonneg k)
            simp only [growB, decide_eq_true_eq]
            omega
          · cases h
        · cases h
    | _ => rfl
  | _ => cases y <;> rfl

theorem known_sound {cs : Conds} (hc : CondsOk E cs) : ∀ {t : Tm} {b r : Bool}, known cs t = some b → t.den E = some (.bool r) → r = b
  | .bool b', b, r, h, hd => by
    simp only [known, Option.some.injEq] at h
    simp only [Tm.den, Option.some.injEq, U.bool.injEq] at hd
    rw [← hd, h]
  | .un .not a, b, r, h, hd => by
    simp only [known, Option.map_eq_some_iff] at h
    obtain ⟨b', h1, h2⟩ := h
    simp only [Tm.den] at hd
    split at hd
    · rename_i u hu
      cases u <;> simp only [TUn.den, reduceCtorEq, Option.some.injEq, U.bool.injEq] at hd
      rw [known_sound hc h1 hu] at hd
      rw [← hd, h2]
    · cases hd
  | .bin .eq a b', b, r, h, hd => by
    simp only [known] at h
    split at h
    · rename_i r' hr
      have := lookC_sound hc hr
      rw [hd] at this
      simp only [Option.some.injEq, U.bool.injEq] at this h
      rw [this, h]
    · simp only [Tm.den] at hd
      split at hd
      · rename_i x y hx hy
        split at h
        · rename_i hb
          obtain rfl := beqT_eq _ _ hb
          rw [hx] at hy
          obtain rfl := Option.some.inj hy
          obtain rfl := Option.some.inj h
          cases x <;> simp only [TOp.den, reduceCtorEq, Option.some.injEq, U.bool.injEq, decide_true] at hd <;> exact hd.symm
        · split at h
          · simp only [Tm.den, Option.some.injEq] at hx hy
            subst hx hy
            simp only [TOp.den, Option.some.injEq, U.bool.injEq] at hd h
            rw [← hd, h]
          · simp only [Tm.den, Option.some.injEq] at hx hy
            subst hx hy
            simp only [TOp.den, Option.some.injEq, U.bool.injEq] at hd h
            rw [← hd, h]
          · split at h
            · rename_i hap
              obtain rfl := Option.some.inj h
              unfold apart2 at hap
              simp only [Bool.or_eq_true, Bool.and_eq_true] at hap
              rcases hap with ⟨hint, hap⟩ | hap
              · have hxy : ∃ p q, x = .int p ∧ y = .int q := by
                  rcases hint with hint | hint
                  · cases a <;> simp only [isIntT, Bool.false_eq_true] at hint
                    simp only [Tm.den, Option.some.injEq] at hx
                    subst hx
                    cases y <;> simp only [TOp.den, reduceCtorEq] at hd
                    exact ⟨_, _, rfl, rfl⟩
                  · cases b' <;> simp only [isIntT, Bool.false_eq_true] at hint
                    simp only [Tm.den, Option.some.injEq] at hy
                    subst hy
                    cases x <;> simp only [TOp.den, reduceCtorEq] at hd
                    exact ⟨_, _, rfl, rfl⟩
                obtain ⟨p, q, rfl, rfl⟩ := hxy
                simp only [TOp.den, Option.some.injEq, U.bool.injEq] at hd
                rcases hap with hap | hap
                · split at hap
                  · rename_i h1 h2
                    have hlt := of_decide_eq_true hap
                    have := highB_sound hx hc h1
                    have := lowB_sound hy hc h2
                    rw [← hd]; exact decide_eq_false (by omega)
                  · cases hap
                · split at hap
                  · rename_i h1 h2
                    have hlt := of_decide_eq_true hap
                    have := highB_sound hy hc h1
                    have := lowB_sound hx hc h2
                    rw [← hd]; exact decide_eq_false (by omega)
                  · cases hap
              · split at hap
                · rename_i s
                  obtain ⟨u, h1, h2⟩ := otherStr_sound hc hap
                  rw [hx] at h1
                  obtain rfl := Option.some.inj h1
                  simp only [Tm.den, Option.some.injEq] at hy
                  subst hy
                  simp only [TOp.den, Option.some.injEq, U.bool.injEq] at hd
                  rw [← hd]; exact decide_eq_false h2
                · cases hap
            · cases h
      · cases hd
  | .bin .lt a b', b, r, h, hd => by
    obtain ⟨p, q, hp, hq, rfl⟩ := den_lt hd
    simp only [known] at h
    split at h
    · rename_i r' hr
      have := lookC_sound hc hr
      rw [hd] at this
      simp only [Option.some.injEq, U.bool.injEq] at this h
      rw [this, h]
    · split at h
      · rename_i hb
        obtain rfl := beqT_eq _ _ hb
        rw [hp] at hq
        simp only [Option.some.injEq, U.int.injEq] at hq h
        rw [← h, hq]; exact decide_eq_false (by omega)
      · rw [ltKnown_sound hc hp hq h]
  | .var n, b, r, h, hd => by
    have := lookC_sound hc h
    rw [hd] at this
    simpa using this
  | .int n, b, r, h, hd => by
    have := lookC_sound hc h
    rw [hd] at this
    simpa using this
  | .rows n, b, r, h, hd => by
    have := lookC_sound hc h
    rw [hd] at this
    simpa using this
  | .nil, b, r, h, hd => by
    have := lookC_sound hc h
    rw [hd] at this
    simpa using this
  | .elem _ _ _ _, b, r, h, hd => by
    have := lookC_sound hc h
    rw [hd] at this
    simpa using this
  | .str n, b, r, h, hd => by
    have := lookC_sound hc h
    rw [hd] at this
    simpa using this
  | .app f l, b, r, h, hd => by
    have := lookC_sound hc h
    rw [hd] at this
    simpa using this
  | .un .len l, b, r, h, hd => by
    have := lookC_sound hc h
    rw [hd] at this
    simpa using this
  | .un (.wrap k) l, b, r, h, hd => by
    have := lookC_sound hc h
    rw [hd] at this
    simpa using this
  | .bin .mx a c, b, r, h, hd => by
    have := lookC_sound hc h
    rw [hd] at this
    simpa using this
  | .bin .mn a c, b, r, h, hd => by
    have := lookC_sound hc h
    rw [hd] at this
    simpa using this
  | .bin (.col o) a c, b, r, h, hd => by
    have := lookC_sound hc h
    rw [hd] at this
    simpa using this
  | .bin (.colB o) a c, b, r, h, hd => by
    have := lookC_sound hc h
    rw [hd] at this
    simpa using this
  | .bin (.mget o) a c, b, r, h, hd => by
    have := lookC_sound hc h
    rw [hd] at this
    simpa using this
  | .bin (.mgetB o) a c, b, r, h, hd => by
    have := lookC_sound hc h
    rw [hd] at this
    simpa using this
  | .bin .mhas a c, b, r, h, hd => by
    have := lookC_sound hc h
    rw [hd] at this
    simpa using this
  | .bin (.ar o k) a c, b, r, h, hd => by
    have := lookC_sound hc h
    rw [hd] at this
    simpa using this
  | .bin (.grow k c) i g, b, r, h, hd => by
    simp only [known] at h
    split at h
    · rename_i r' hr
      have := lookC_sound hc hr
      rw [hd] at this
      simp only [Option.some.injEq, U.bool.injEq] at this h
      rw [this, h]
    · obtain ⟨x, y, e1, e2, rfl⟩ := den_growT hd
      exact growKnown_sound hc e1 e2 h
end Go.Eng

namespace Go.Eng
open Go.RowKit

variable {P : Program} {K : Fix} {E F : Env} {S S' : St} {X : List (List Value)} {w w' : World} {a b v : AVal} {x y : Value} {t s : TypeId}

/-- An integer as a term. -/
def tmInt : AVal → Option (IntKind × Tm)
  | .tm (.int k) t => some (k, t)
  | .lit (.int k z) => if (Lit.int k z).wf = true then some (k, .int z) else none
  | _ => none

theorem tmInt_sound {k : IntKind} {u : Tm} (h : VR E a x) (hv : tmInt a = some (k, u)) : ∃ z, u.den E = some (.int z) ∧ (Lit.int k z).wf = true ∧ x = .int k z := by
  unfold tmInt at hv
  split at hv
  · simp only [Option.some.injEq, Prod.mk.injEq] at hv; obtain ⟨rfl, rfl⟩ := hv
    simp only [VR] at h; exact h
  · split at hv
    · rename_i hw
      simp only [Option.some.injEq, Prod.mk.injEq] at hv; obtain ⟨rfl, rfl⟩ := hv
      simp only [VR] at h
      exact ⟨_, rfl, hw, h⟩
    · cases hv
  · cases hv

def tmBool : AVal → Option Tm
  | .tm .bool t => some t
  | .lit (.bool b) => some (.bool b)
  | _ => none
theorem tmBool_sound {u : Tm} (h : VR E a x) (hv : tmBool a = some u) : ∃ z, u.den E = some (.bool z) ∧ x = .bool z := by
  unfold tmBool at hv
  split at hv
  · obtain rfl := Option.some.inj hv; simp only [VR] at h; exact h
  · obtain rfl := Option.some.inj hv
    simp only [VR] at h
    exact ⟨_, rfl, h⟩
  · cases hv

def tmStr : AVal → Option Tm
  | .tm .str t => some t
  | .lit (.string b) => some (.str b)
  | _ => none
theorem tmStr_sound {u : Tm} (h : VR E a x) (hv : tmStr a = some u) : ∃ z, u.den E = some (.str z) ∧ x = .string z := by
  unfold tmStr at hv
  split at hv
  · obtain rfl := Option.some.inj hv; simp only [VR] at h; exact h
  · obtain rfl := Option.some.inj hv
    simp only [VR] at h
    exact ⟨_, rfl, h⟩
  · cases hv

/-- A condition as a value: as it is known. -/
def mkB (cs : Conds) (t : Tm) : AVal :=
  match known cs t with
  | some b => .lit (.bool b)
  | none => .tm .bool t

theorem mkB_sound {cs : Conds} {u : Tm} {r : Bool} (hc : CondsOk E cs) (h : u.den E = some (.bool r)) : VR E (mkB cs u) (.bool r) := by
  unfold mkB
  split
  · rename_i b hb
    simp only [VR]; rw [known_sound hc hb h]
  · simp only [VR]; exact ⟨r, h, rfl⟩

/-- A value, where it is a condition as it is known. -/
def norm (cs : Conds) : AVal → AVal
  | .tm .bool t => mkB cs t
  | v => v

theorem norm_sound {cs : Conds} (hc : CondsOk E cs) (h : VR E a x) : VR E (norm cs a) x := by
  unfold norm
  split
  · simp only [VR] at h
    obtain ⟨r, h1, rfl⟩ := h
    exact mkB_sound hc h1
  · exact h

def mkI (k : IntKind) (o : TOp) (a b : Tm) : AVal :=
  match a, b with
  | .int p, .int q => match o.den (.int p) (.int q) with
    | some (.int z) => .lit (.int k z)
    | _ => .tm (.int k) (.bin o a b)
  | _, _ => .tm (.int k) (.bin o a b)

theorem mkI_sound {k : IntKind} {o : TOp} {p q : Tm} {z : Int} (h : (Tm.bin o p q).den E = some (.int z)) (hw : (Lit.int k z).wf = true) : VR E (mkI k o p q) (.int k z) := by
  unfold mkI
  split
  · split
    · rename_i z' hz
      simp only [Tm.den, hz, Option.some.injEq, U.int.injEq] at h
      simp only [VR]; rw [h]
    · simp only [VR]; exact ⟨z, h, hw, rfl⟩
  · simp only [VR]; exact ⟨z, h, hw, rfl⟩

def isUnsigned (k : IntKind) : Bool := !k.signed

/-- Less, of two of a kind. -/
def mkLt (k : IntKind) (a b : Tm) : Tm :=
  match b with
  | .int z => if isUnsigned k = true ∧ z ≤ 0 then .bool false else .bin .lt a b
  | _ => .bin .lt a b

theorem mkLt_sound {k : IntKind} {p q : Tm} {m n : Int} (hp : p.den E = some (.int m)) (hq : q.den E = some (.int n)) (hw : (Lit.int k m).wf = true) : (mkLt k p q).den E = some (.bool (decide (m < n))) := by
  unfold mkLt
  split
  · rename_i z
    split
    · rename_i h
      obtain ⟨h1, h2⟩ := h
      simp only [Tm.den, Option.some.injEq, U.int.injEq] at hq
      have := (wf_bounds.1 hw).1
      have hmin : k.min = 0 := by
        unfold isUnsigned at h1
        unfold IntKind.min
        rw [if_neg (by simpa using h1)]
      simp only [Tm.den]
      congr 2
      exact (decide_eq_false (by omega)).symm
    · simp only [Tm.den, Option.some.injEq, U.int.injEq] at hq
      simp only [Tm.den, hp, TOp.den]
      rw [hq]
  · simp only [Tm.den, hp, hq, TOp.den]

def asymInt (cs : Conds) (op : BinOp) (k : IntKind) (a b : Tm) : Option AVal :=
  match op with
  | .add => some (mkI k (.ar .add k) a b)
  | .sub => some (mkI k (.ar .sub k) a b)
  | .mul => some (mkI k (.ar .mul k) a b)
  | .and => some (mkI k (.ar .and k) a b)
  | .or => some (mkI k (.ar .or k) a b)
  | .rem => match b with
    | .int z => if 0 < z then some (mkI k (.ar .rem k) a b) else none
    | _ => none
  | .eql => some (mkB cs (.bin .eq a b))
  | .neq => some (mkB cs (.un .not (.bin .eq a b)))
  | .lss => some (mkB cs (mkLt k a b))
  | .gtr => some (mkB cs (mkLt k b a))
  | .leq => some (mkB cs (.un .not (mkLt k b a)))
  | .geq => some (mkB cs (.un .not (mkLt k a b)))
  | _ => none

theorem rem_wf {k : IntKind} {m z : Int} (hz : 0 < z) (h : (Lit.int k m).wf = true) : (Lit.int k (m.tmod z)).wf = true := by
  rw [wf_bounds] at h ⊢
  have hmin : k.min ≤ 0 := by cases k <;> decide
  have hmax : 0 ≤ k.max := by cases k <;> decide
  rcases Int.le_total 0 m with g | g
  · have h1 := Int.tmod_nonneg z g
    have h2 : m.tmod z ≤ m := by
      have := Int.tmod_add_mul_tdiv m z
      have h3 : 0 ≤ m.tdiv z := Int.tdiv_nonneg g (by omega)
      have : 0 ≤ z * m.tdiv z := Int.mul_nonneg (by omega) h3
      omega
    omega
  · have e : m.tmod z = -((-m).tmod z) := by rw [Int.neg_tmod]; omega
    have g' : 0 ≤ -m := by omega
    have h1 := Int.tmod_nonneg z g'
    have h2 : (-m).tmod z ≤ -m := by
      have := Int.tmod_add_mul_tdiv (-m) z
      have h3 : 0 ≤ (-m).tdiv z := Int.tdiv_nonneg g' (by omega)
      have : 0 ≤ z * (-m).tdiv z := Int.mul_nonneg (by omega) h3
      omega
    omega

theorem asymInt_sound {cs : Conds} {op : BinOp} {k : IntKind} {p q : Tm} {m n : Int} (hc : CondsOk E cs) (hp : p.den E = some (.int m)) (hq : q.den E = some (.int n))
    (wm : (Lit.int k m).wf = true) (wn : (Lit.int k n).wf = true) (hv : asymInt cs op k p q = some v) : ∃ z, (binOp op t (.int k m) (.int k n)).run P w = .ok z w ∧ VR E v z := by
  unfold asymInt at hv
  split at hv
  · obtain rfl := Option.some.inj hv
    exact ⟨_, by rw [binOp_add]; rfl, mkI_sound (by simp only [Tm.den, hp, hq, TOp.den]) (wf_wrap _ _)⟩
  · obtain rfl := Option.some.inj hv
    exact ⟨_, by rw [binOp_sub]; rfl, mkI_sound (by simp only [Tm.den, hp, hq, TOp.den]) (wf_wrap _ _)⟩
  · obtain rfl := Option.some.inj hv
    exact ⟨_, by rw [binOp_mul]; rfl, mkI_sound (by simp only [Tm.den, hp, hq, TOp.den]) (wf_wrap _ _)⟩
  · obtain rfl := Option.some.inj hv
    exact ⟨_, by rw [binOp_and]; rfl, mkI_sound (by simp only [Tm.den, hp, hq, TOp.den, bitsOf, Option.map_some]) (wf_wrap _ _)⟩
  · obtain rfl := Option.some.inj hv
    exact ⟨_, by rw [binOp_or]; rfl, mkI_sound (by simp only [Tm.den, hp, hq, TOp.den, bitsOf, Option.map_some]) (wf_wrap _ _)⟩
  · split at hv
    · rename_i z
      split at hv
      · rename_i hz
        obtain rfl := Option.some.inj hv
        simp only [Tm.den, Option.some.injEq, U.int.injEq] at hq
        subst hq
        refine ⟨.int k (m.tmod z), ?_, mkI_sound (by simp only [Tm.den, hp, TOp.den]) (rem_wf hz wm)⟩
        rw [binOp_rem]
        unfold Op.intDiv
        rw [if_neg (by omega)]
        rfl
      · cases hv
    · cases hv
  · obtain rfl := Option.some.inj hv
    exact ⟨_, by rw [binOp_eql]; rfl, mkB_sound hc (by simp only [Tm.den, hp, hq, TOp.den]; congr 2)⟩
  · obtain rfl := Option.some.inj hv
    refine ⟨.bool (m != n), by simp [binOp, Op.intCmp], mkB_sound hc ?_⟩
    simp only [Tm.den, hp, hq, TOp.den, TUn.den]; congr 2
  · obtain rfl := Option.some.inj hv
    exact ⟨.bool (decide (m < n)), by simp [binOp, Op.intCmp], mkB_sound hc (mkLt_sound hp hq wm)⟩
  · obtain rfl := Option.some.inj hv
    exact ⟨.bool (decide (n < m)), by simp [binOp, Op.intCmp], mkB_sound hc (mkLt_sound hq hp wn)⟩
  · obtain rfl := Option.some.inj hv
    refine ⟨.bool (decide (m ≤ n)), by simp [binOp, Op.intCmp], mkB_sound hc ?_⟩
    simp only [Tm.den, mkLt_sound hq hp wn, TUn.den]
    congr 2
    by_cases g : n < m
    · rw [decide_eq_true g, decide_eq_false (by omega : ¬ m ≤ n)]; rfl
    · rw [decide_eq_false g, decide_eq_true (by omega : m ≤ n)]; rfl
  · obtain rfl := Option.some.inj hv
    refine ⟨.bool (decide (n ≤ m)), by simp [binOp, Op.intCmp], mkB_sound hc ?_⟩
    simp only [Tm.den, mkLt_sound hp hq wm, TUn.den]
    congr 2
    by_cases g : m < n
    · rw [decide_eq_true g, decide_eq_false (by omega : ¬ n ≤ m)]; rfl
    · rw [decide_eq_false g, decide_eq_true (by omega : n ≤ m)]; rfl
  · cases hv

/-- An integer as a term, whatever its size. -/
def tmIntR : AVal → Option (IntKind × Tm)
  | .tm (.int k) t => some (k, t)
  | .tm (.raw k) t => some (k, t)
  | .lit (.int k z) => some (k, .int z)
  | _ => none

theorem tmIntR_sound {k : IntKind} {u : Tm} (h : VR E a x) (hv : tmIntR a = some (k, u)) : ∃ z, u.den E = some (.int z) ∧ x = .int k z := by
  unfold tmIntR at hv
  split at hv
  · simp only [Option.some.injEq, Prod.mk.injEq] at hv; obtain ⟨rfl, rfl⟩ := hv
    simp only [VR] at h
    obtain ⟨z, h1, _, h3⟩ := h
    exact ⟨z, h1, h3⟩
  · simp only [Option.some.injEq, Prod.mk.injEq] at hv; obtain ⟨rfl, rfl⟩ := hv
    simp only [VR] at h; exact h
  · simp only [Option.some.injEq, Prod.mk.injEq] at hv; obtain ⟨rfl, rfl⟩ := hv
    simp only [VR] at h
    exact ⟨_, rfl, h⟩
  · cases hv

def asymCmp (cs : Conds) (op : BinOp) (a b : Tm) : Option AVal :=
  match op with
  | .eql => some (mkB cs (.bin .eq a b))
  | .neq => some (mkB cs (.un .not (.bin .eq a b)))
  | .lss => some (mkB cs (.bin .lt a b))
  | .gtr => some (mkB cs (.bin .lt b a))
  | .leq => some (mkB cs (.un .not (.bin .lt b a)))
  | .geq => some (mkB cs (.un .not (.bin .lt a b)))
  | _ => none

theorem asymCmp_sound {cs : Conds} {op : BinOp} {k : IntKind} {p q : Tm} {m n : Int} (hc : CondsOk E cs) (hp : p.den E = some (.int m)) (hq : q.den E = some (.int n))
    (hv : asymCmp cs op p q = some v) : ∃ z, (binOp op t (.int k m) (.int k n)).run P w = .ok z w ∧ VR E v z := by
  unfold asymCmp at hv
  split at hv
  · obtain rfl := Option.some.inj hv
    exact ⟨_, by rw [binOp_eql]; rfl, mkB_sound hc (by simp only [Tm.den, hp, hq, TOp.den]; congr 2)⟩
  · obtain rfl := Option.some.inj hv
    refine ⟨.bool (m != n), by simp [binOp, Op.intCmp], mkB_sound hc ?_⟩
    simp only [Tm.den, hp, hq, TOp.den, TUn.den]; congr 2
  · obtain rfl := Option.some.inj hv
    exact ⟨.bool (decide (m < n)), by simp [binOp, Op.intCmp], mkB_sound hc (by simp only [Tm.den, hp, hq, TOp.den])⟩
  · obtain rfl := Option.some.inj hv
    exact ⟨.bool (decide (n < m)), by simp [binOp, Op.intCmp], mkB_sound hc (by simp only [Tm.den, hp, hq, TOp.den])⟩
  · obtain rfl := Option.some.inj hv
    refine ⟨.bool (decide (m ≤ n)), by simp [binOp, Op.intCmp], mkB_sound hc ?_⟩
    simp only [Tm.den, hp, hq, TOp.den, TUn.den]
    congr 2
    by_cases g : n < m
    · rw [decide_eq_true g, decide_eq_false (by omega : ¬ m ≤ n)]; rfl
    · rw [decide_eq_false g, decide_eq_true (by omega : m ≤ n)]; rfl
  · obtain rfl := Option.some.inj hv
    refine ⟨.bool (decide (n ≤ m)), by simp [binOp, Op.intCmp], mkB_sound hc ?_⟩
    simp only [Tm.den, hp, hq, TOp.den, TUn.den]
    congr 2
    by_cases g : m < n
    · rw [decide_eq_true g, decide_eq_false (by omega : ¬ n ≤ m)]; rfl
    · rw [decide_eq_false g, decide_eq_true (by omega : n ≤ m)]; rfl
  · cases hv

/-- An operator on what isn't known. -/
def asym (P : Program) (cs : Conds) (op : BinOp) (t : TypeId) (p q : AVal) : Option AVal :=
  match tmInt p, tmInt q with
  | some (k, a), some (k', b) => if k = k' then asymInt cs op k a b else none
  | _, _ =>
    match tmStr p, tmStr q with
    | some a, some b => match op with
      | .eql => some (mkB cs (.bin .eq a b))
      | .neq => some (mkB cs (.un .not (.bin .eq a b)))
      | _ => none
    | _, _ =>
      match tmBool p, tmBool q with
      | some a, some b => match P.underlying t with
        | some .bool => (match op with
          | .eql => some (mkB cs (.bin .eq a b))
          | .neq => some (mkB cs (.un .not (.bin .eq a b)))
          | _ => none)
        | _ => none
      | _, _ => match tmIntR p, tmIntR q with
        | some (k, a), some (k', b) => if k = k' then asymCmp cs op a b else none
        | _, _ => none

theorem eqGuard_int {op : BinOp} {px qx : Operand} {k k' : IntKind} {m n : Int} : (eqGuard op t px qx (.int k m) (.int k' n)).run P w = .ok () w := by
  unfold eqGuard; cases op <;> rfl
theorem eqGuard_str {op : BinOp} {px qx : Operand} {m n : ByteArray} : (eqGuard op t px qx (.string m) (.string n)).run P w = .ok () w := by
  unfold eqGuard; cases op <;> rfl
theorem eqGuard_bool {op : BinOp} {px qx : Operand} {m n : Bool} : (eqGuard op t px qx (.bool m) (.bool n)).run P w = .ok () w := by
  unfold eqGuard; cases op <;> rfl

theorem str_beq (m n : ByteArray) : (m.toList == n.toList) = decide (m = n) := by
  by_cases h : m = n
  · subst h; simp
  · rw [decide_eq_false h]
    rw [beq_eq_false_iff_ne]
    intro e
    refine h ?_
    have hl : ∀ b : ByteArray, b.toList = b.data.toList := by
      intro b
      exact ByteArray.toList_eq b
    rw [hl, hl] at e
    have := Array.ext' e
    cases m; cases n
    simp only at this
    rw [this]

theorem asym_sound {cs : Conds} {op : BinOp} {px qx : Operand} {p q : AVal} (hc : CondsOk E cs) (hp : VR E p x) (hq : VR E q y) (hv : asym P cs op t p q = some v) :
    ∃ z, (do eqGuard op t px qx x y; binOp op t x y : Sem Value).run P w = .ok z w ∧ VR E v z := by
  unfold asym at hv
  split at hv
  · rename_i k a k' b h1 h2
    split at hv
    · rename_i hk
      subst hk
      obtain ⟨m, e1, e2, rfl⟩ := tmInt_sound hp h1
      obtain ⟨n, f1, f2, rfl⟩ := tmInt_sound hq h2
      obtain ⟨z, g1, g2⟩ := asymInt_sound (P := P) (t := t) (w := w) hc e1 f1 e2 f2 hv
      exact ⟨z, by rw [Sem.run_bind, eqGuard_int]; exact g1, g2⟩
    · cases hv
  · split at hv
    · rename_i a b h1 h2
      obtain ⟨m, e1, rfl⟩ := tmStr_sound hp h1
      obtain ⟨n, f1, rfl⟩ := tmStr_sound hq h2
      split at hv
      · obtain rfl := Option.some.inj hv
        refine ⟨.bool (m.toList == n.toList), by rw [Sem.run_bind, eqGuard_str]; rfl, mkB_sound hc ?_⟩
        simp only [Tm.den, e1, f1, TOp.den, str_beq]
      · obtain rfl := Option.some.inj hv
        refine ⟨.bool (!(m.toList == n.toList)), by rw [Sem.run_bind, eqGuard_str]; rfl, mkB_sound hc ?_⟩
        simp only [Tm.den, e1, f1, TOp.den, TUn.den, str_beq]
      · cases hv
    · split at hv
      · rename_i a b h1 h2
        obtain ⟨m, e1, rfl⟩ := tmBool_sound hp h1
        obtain ⟨n, f1, rfl⟩ := tmBool_sound hq h2
        split at hv
        · rename_i hd
          have he : (Op.equal t (.bool m) (.bool n)).run P w = .ok (m == n) w := by
            show (Op.equalIn 10000 t _ _).run P w = _
            rw [show (10000 : Nat) = 9999 + 1 from rfl]
            unfold Op.equalIn
            simp [underlying, hd]
          split at hv
          · obtain rfl := Option.some.inj hv
            refine ⟨.bool (m == n), ?_, mkB_sound hc ?_⟩
            · rw [Sem.run_bind, eqGuard_bool]
              show (do pure (.bool (← Op.equal t (.bool m) (.bool n))) : Sem Value).run P w = _
              rw [Sem.run_bind, he]; rfl
            · simp only [Tm.den, e1, f1, TOp.den]; congr 2
          · obtain rfl := Option.some.inj hv
            refine ⟨.bool (!(m == n)), ?_, mkB_sound hc ?_⟩
            · rw [Sem.run_bind, eqGuard_bool]
              show (do pure (.bool (!(← Op.equal t (.bool m) (.bool n)))) : Sem Value).run P w = _
              rw [Sem.run_bind, he]; rfl
            · simp only [Tm.den, e1, f1, TOp.den, TUn.den]; congr 2
          · cases hv
        · cases hv
      · split at hv
        · rename_i k a k' b h1 h2
          split at hv
          · rename_i hk
            subst hk
            obtain ⟨m, e1, rfl⟩ := tmIntR_sound hp h1
            obtain ⟨n, f1, rfl⟩ := tmIntR_sound hq h2
            obtain ⟨z, g1, g2⟩ := asymCmp_sound (P := P) (t := t) (w := w) hc e1 f1 hv
            exact ⟨z, by rw [Sem.run_bind, eqGuard_int]; exact g1, g2⟩
          · cases hv
        · cases hv

/-- A whole number of another kind. -/
def aconvS (P : Program) (s d : TypeId) (a : AVal) : Option AVal :=
  match a, P.underlying s, P.underlying d with
  | .tm (.int j) t, some _, some (.int k) => if k.min ≤ j.min ∧ j.max ≤ k.max then some (.tm (.int k) t) else some (.tm (.int k) (.un (.wrap k) t))
  | .tm .str t, some _, some .string => some (.tm .str t)
  | _, _, _ => none

theorem aconvS_sound {d : TypeId} (ha : VR E a x) (hv : aconvS P s d a = some v) : ∃ y, (convert s d x).run P w = .ok y w ∧ VR E v y := by
  unfold aconvS at hv
  split at hv
  · rename_i j u ds k hs hd
    simp only [VR] at ha
    obtain ⟨z, h1, h2, rfl⟩ := ha
    have hrun : (convert s d (.int j z)).run P w = .ok (.int k (k.wrap z)) w := by
      simp [convert, underlying, hs, hd, Conv.intToInt]
    refine ⟨_, hrun, ?_⟩
    split at hv
    · rename_i hb
      obtain rfl := Option.some.inj hv
      have := wf_bounds.1 h2
      rw [wrap_in (by omega) (by omega)]
      simp only [VR]
      exact ⟨z, h1, wf_bounds.2 ⟨by omega, by omega⟩, rfl⟩
    · obtain rfl := Option.some.inj hv
      simp only [VR]
      exact ⟨_, by simp only [Tm.den, h1, TUn.den], wf_wrap _ _, rfl⟩
  · rename_i u ds hs hd
    obtain rfl := Option.some.inj hv
    simp only [VR] at ha
    obtain ⟨z, h1, rfl⟩ := ha
    refine ⟨.string z, by simp [convert, underlying, hs, hd], ?_⟩
    simp only [VR]; exact ⟨z, h1, rfl⟩
  · cases hv

def aunS (cs : Conds) (op : UnOp) (a : AVal) : Option AVal :=
  match op, a with
  | .not, .tm .bool t => some (mkB cs (.un .not t))
  | _, _ => none

theorem aunS_sound {cs : Conds} {op : UnOp} (hc : CondsOk E cs) (ha : VR E a x) (hv : aunS cs op a = some v) : ∃ y, (Op.unary op x).run P w = .ok y w ∧ VR E v y := by
  unfold aunS at hv
  split at hv
  · obtain rfl := Option.some.inj hv
    simp only [VR] at ha
    obtain ⟨z, h1, rfl⟩ := ha
    exact ⟨.bool (!z), rfl, mkB_sound hc (by simp only [Tm.den, h1, TUn.den])⟩
  · cases hv

/-- The lesser, the greater of two; how long a list is. -/
def abuiltinS (S : St) (nl : Nat → Bool) (bi : Builtin) (vs : List AVal) : Option AVal :=
  match bi, vs with
  | .max, [p, q] => match tmInt p, tmInt q with
    | some (k, a), some (k', b) => if k = k' then some (mkI k .mx a b) else none
    | _, _ => none
  | .min, [p, q] => match tmInt p, tmInt q with
    | some (k, a), some (k', b) => if k = k' then some (mkI k .mn a b) else none
    | _, _ => none
  | .len, [.tm .any h] => match S.x.objs.find? (fun o => nl o.kind && beqT o.h h) with
    | some o => match o.gs with
      | [g] => some (.tm (.int .i64) (.un .len g))
      | _ => none
    | none => none
  | _, _ => none

theorem abuiltinS_sound {bi : Builtin} {ats : Array TypeId} {type : TypeId} {consts : Array Bool} {vs : List AVal} {xs : List Value} (hx : XOk K E S.x w) (hs : VRs E vs xs)
    (hty : bi = .len → ∃ t e, ats = #[t] ∧ P.underlying t = some (.slice e)) (hv : abuiltinS S K.ob.nils bi vs = some v) : ∃ y, (builtin bi ats type consts xs.toArray).run P w = .ok (.value y) w ∧ VR E v y := by
  unfold abuiltinS at hv
  split at hv
  · split at hv
    · rename_i p q k a k' b h1 h2
      split at hv
      · rename_i hk
        subst hk
        obtain rfl := Option.some.inj hv
        simp only [VRs] at hs
        obtain ⟨x, r, hp, ⟨y, r2, hq, rfl, rfl⟩, rfl⟩ := hs
        obtain ⟨m, e1, e2, rfl⟩ := tmInt_sound hp h1
        obtain ⟨n, f1, f2, rfl⟩ := tmInt_sound hq h2
        refine ⟨.int k (if n > m then n else m), rfl, ?_⟩
        have := mkI_sound (E := E) (k := k) (o := .mx) (p := a) (q := b) (z := if m < n then n else m) (by simp only [Tm.den, e1, f1, TOp.den]) (by split <;> assumption)
        exact this
      · cases hv
    · cases hv
  · split at hv
    · rename_i p q k a k' b h1 h2
      split at hv
      · rename_i hk
        subst hk
        obtain rfl := Option.some.inj hv
        simp only [VRs] at hs
        obtain ⟨x, r, hp, ⟨y, r2, hq, rfl, rfl⟩, rfl⟩ := hs
        obtain ⟨m, e1, e2, rfl⟩ := tmInt_sound hp h1
        obtain ⟨n, f1, f2, rfl⟩ := tmInt_sound hq h2
        refine ⟨.int k (if n < m then n else m), rfl, ?_⟩
        have := mkI_sound (E := E) (k := k) (o := .mn) (p := a) (q := b) (z := if n < m then n else m) (by simp only [Tm.den, e1, f1, TOp.den]) (by split <;> assumption)
        exact this
      · cases hv
    · cases hv
  · rename_i h
    split at hv
    · rename_i o ho
      split at hv
      · rename_i g hg
        obtain rfl := Option.some.inj hv
        simp only [VRs, VR] at hs
        obtain ⟨x, r, hp, rfl, rfl⟩ := hs
        have hmem := List.mem_of_find?_eq_some ho
        have hc := List.find?_some ho
        simp only [Bool.and_eq_true] at hc
        obtain ⟨i, hi⟩ := List.getElem?_of_mem hmem
        obtain ⟨v', gs, e1, e2, e3⟩ := hx.objs i o hi
        have := beqT_eq _ _ hc.2
        rw [this, hp.1] at e1
        simp only [Option.some.injEq, U.val.injEq] at e1
        subst e1
        obtain ⟨a, n, cap, l, rfl, rfl, rfl, hn, _⟩ := K.ob.hlen _ _ _ _ _ _ hc.1 e3
        obtain ⟨t, e, rfl, hu⟩ := hty rfl
        refine ⟨goInt l.length, by simp [builtin, Builtin.len_, run_underlying' hu], ?_⟩
        rw [hg] at e2
        simp only [dens] at e2
        split at e2
        · rename_i x1 x2 hx1 hx2
          simp only [Option.some.injEq, List.cons.injEq] at hx2 e2
          simp only [VR]
          refine ⟨l.length, by simp only [Tm.den, hx1, e2.1, TUn.den], ?_, rfl⟩
          rw [wf_bounds]
          have h1 : IntKind.i64.min = -9223372036854775808 := by decide
          have h2 : IntKind.i64.max = 9223372036854775807 := by decide
          omega
        · cases e2
      · cases hv
    · cases hv
  · cases hv

end Go.Eng

namespace Go.Eng
open Go.RowKit

variable {P : Program} {K : Fix} {E F : Env} {S S' : St} {X : List (List Value)} {w w' : World} {a b v : AVal} {x y : Value} {t s : TypeId}

/-! ### the elements of a list that is an object -/

def obOf (nl : Nat → Bool) (objs : List AOb) (h : Tm) : Option (Nat × Tm) :=
  match objs.find? fun o => nl o.kind && beqT o.h h with
  | some o => match o.gs with
    | [g] => some (o.kind, g)
    | _ => none
  | none => none

theorem obOf_sound {h g : Tm} {κ : Nat} (hx : XOk K E S.x w) (ho : obOf K.ob.nils S.x.objs h = some (κ, g)) :
    ∃ a n cap l D R, h.den E = some (.val (.slice a n cap)) ∧ g.den E = some (.rows l) ∧ K.ob.nils κ = true ∧ K.ob.obj κ (.slice a n cap) [.rows l] w D R ∧ n = l.length ∧ n ≤ 9223372036854775807 ∧ ((a = none ∧ l = []) ∨ ∃ b off, a = some ⟨b, off, none⟩) := by
  unfold obOf at ho
  split at ho
  · rename_i o hf
    split at ho
    · rename_i g' hg
      simp only [Option.some.injEq, Prod.mk.injEq] at ho; obtain ⟨rfl, rfl⟩ := ho
      have hmem := List.mem_of_find?_eq_some hf
      have hc := List.find?_some hf
      simp only [Bool.and_eq_true] at hc
      obtain ⟨i, hi⟩ := List.getElem?_of_mem hmem
      obtain ⟨v', gs, e1, e2, e3⟩ := hx.objs i o hi
      have := beqT_eq _ _ hc.2
      rw [this] at e1
      obtain ⟨a, n, cap, l, rfl, rfl, h1, h2, h3⟩ := K.ob.hlen _ _ _ _ _ _ hc.1 e3
      rw [hg] at e2
      simp only [dens] at e2
      split at e2
      · rename_i x1 x2 hx1 hx2
        simp only [Option.some.injEq, List.cons.injEq] at e2
        rw [e2.1] at hx1
        exact ⟨a, n, cap, l, _, _, e1, hx1, hc.1, e3, h1, h2, h3⟩
      · cases e2
    · cases ho
  · cases ho

/-- Is a place among those of a list? -/
def inList (cs : Conds) (i g : Tm) : Bool := known cs (.bin .lt i (.int 0)) == some false && known cs (.bin .lt i (.un .len g)) == some true

theorem inList_sound {cs : Conds} {i g : Tm} {z : Int} {l : List (List Int)} (hc : CondsOk E cs) (hi : i.den E = some (.int z)) (hg : g.den E = some (.rows l)) (h : inList cs i g = true) : 0 ≤ z ∧ z < l.length := by
  unfold inList at h
  simp only [Bool.and_eq_true, beq_iff_eq] at h
  have h1 := known_sound (r := decide (z < 0)) hc h.1 (by simp only [Tm.den, hi, TOp.den])
  have h2 := known_sound (r := decide (z < (l.length : Int))) hc h.2 (by simp only [Tm.den, hi, hg, TUn.den, TOp.den])
  have h1 := of_decide_eq_false h1
  have h2 := of_decide_eq_true h2
  omega

def aindexAtS (P : Program) (G : Glb) (S : St) (t : TypeId) (a i : AVal) : Option AVal :=
  match a with
  | .tm .any h =>
    match obOf G.nils S.x.objs h, tmInt i, P.underlying t with
    | some (κ, g), some (_, ti), some (.slice e) =>
      match P.info? e with
      | some inf => if inf.size = (G.cols κ).length ∧ inList S.x.conds ti g = true then some (.tm .ptr (.elem h ti inf.size 0)) else none
      | none => none
    | _, _, _ => none
  | _ => none

theorem aindexAtS_sound {u : AVal} {z : Value} (hx : XOk K E S.x w) (ha : VR E a x) (hi : VR E u z) (hv : aindexAtS P K S t a u = some v) : ∃ y, (Instr.indexAt t x z).run P w = .ok y w ∧ VR E v y := by
  unfold aindexAtS at hv
  split at hv
  · rename_i h
    split at hv
    · rename_i κ g k ti e hob hti hu
      split at hv
      · rename_i inf hinf
        split at hv
        · rename_i hc
          obtain rfl := Option.some.inj hv
          obtain ⟨a, n, cap, l, D, R, e1, e2, e3, e4, rfl, e6, e7⟩ := obOf_sound hx hob
          obtain ⟨m, f1, f2, rfl⟩ := tmInt_sound hi hti
          obtain ⟨h0, h1⟩ := inList_sound hx.conds f1 e2 hc.2
          simp only [VR] at ha
          have hxe := ha.1
          rw [e1] at hxe
          simp only [Option.some.injEq, U.val.injEq] at hxe
          subst hxe
          rcases e7 with ⟨_, rfl⟩ | ⟨b, off, rfl⟩
          · simp at h1; omega
          · refine ⟨.pointer (some ⟨b, off + m.toNat * inf.size + 0, none⟩), ?_, ?_⟩
            · simp [Instr.indexAt, asIntOf, run_underlying' hu, h0, h1, run_sizeOf' hinf, add_plain]
            · simp only [VR]
              exact ⟨⟨b, off + m.toNat * inf.size + 0, none⟩, by simp only [Tm.den, e1, f1], rfl⟩
        · cases hv
      · cases hv
    · cases hv
  · cases hv

def afieldAtS (P : Program) (s : TypeId) (a : AVal) (f : Nat) : Option AVal :=
  match a with
  | .tm .ptr (.elem h i sz o) =>
    match P.underlying s with
    | some (.struct fields) =>
      match fields[f]? with
      | some fd =>
        match P.info? fd.type with
        | some inf => if inf.size = 0 then none else some (.tm .ptr (.elem h i sz (o + fd.offset)))
        | none => none
      | none => none
    | _ => none
  | _ => none

theorem elem_den {h i : Tm} {sz o : Nat} {ad : Addr} (hd : (Tm.elem h i sz o).den E = some (.val (.pointer (some ad)))) :
    ∃ b off n cap z, h.den E = some (.val (.slice (some ⟨b, off, none⟩) n cap)) ∧ i.den E = some (.int z) ∧ ad = ⟨b, off + z.toNat * sz + o, none⟩ := by
  simp only [Tm.den] at hd
  split at hd
  · rename_i b off n cap z h1 h2
    simp only [Option.some.injEq, U.val.injEq, Value.pointer.injEq] at hd
    exact ⟨b, off, n, cap, z, h1, h2, hd.symm⟩
  · cases hd

theorem afieldAtS_sound {f : Nat} (ha : VR E a x) (hv : afieldAtS P s a f = some v) : ∃ y, (Instr.fieldAt s x f).run P w = .ok y w ∧ VR E v y := by
  unfold afieldAtS at hv
  split at hv
  · rename_i h i sz o
    split at hv
    · rename_i fields hd
      split at hv
      · rename_i fd hfd
        split at hv
        · rename_i inf hinf
          split at hv
          · cases hv
          · rename_i hz
            obtain rfl := Option.some.inj hv
            simp only [VR] at ha
            obtain ⟨ad, e1, rfl⟩ := ha
            obtain ⟨b, off, n, cap, z, h1, h2, rfl⟩ := elem_den e1
            refine ⟨.pointer (some ⟨b, off + z.toNat * sz + o + fd.offset, none⟩), ?_, ?_⟩
            · simp [Instr.fieldAt, run_underlying' hd, hfd, Instr.sureAddr, fieldPlace, run_sizeOf' hinf, hz, add_plain]
            · simp only [VR]
              exact ⟨⟨b, off + z.toNat * sz + (o + fd.offset), none⟩, by simp only [Tm.den, h1, h2], by rw [Nat.add_assoc]⟩
        · cases hv
      · cases hv
    · cases hv
  · cases hv

def colA (g i : Tm) (c : Nat) : TK → Option AVal
  | .int k => some (.tm (.int k) (.bin (.col c) g i))
  | .bool => some (.tm .bool (.bin (.colB c) g i))
  | _ => none

def colsA (g i : Tm) : Nat → List TK → Option (List AVal)
  | _, [] => some []
  | c, q :: l => match colA g i c q, colsA g i (c + 1) l with
    | some a, some m => some (a :: m)
    | _, _ => none

theorem colA_sound {g i : Tm} {c : Nat} {q : TK} {l : List (List Int)} {row : List Int} {z : Int} {m : Int} (hg : g.den E = some (.rows l)) (hi : i.den E = some (.int m)) (hr : l[m.toNat]? = some row) (hz : row[c]? = some z)
    (hw : ∀ kk, q = .int kk → (Lit.int kk z).wf = true) (hv : colA g i c q = some v) : ∃ y, colV q z = some y ∧ VR E v y := by
  unfold colA at hv
  split at hv
  · obtain rfl := Option.some.inj hv
    exact ⟨_, rfl, by simp only [VR]; exact ⟨z, by simp only [Tm.den, hg, hi, TOp.den, hr, hz, Option.map_some], hw _ rfl, rfl⟩⟩
  · obtain rfl := Option.some.inj hv
    exact ⟨_, rfl, by simp only [VR]; exact ⟨_, by simp only [Tm.den, hg, hi, TOp.den, hr, hz, Option.map_some], rfl⟩⟩
  · cases hv

def aloadS (P : Program) (G : Glb) (S : St) (t : TypeId) (a : AVal) : Option AVal :=
  match a with
  | .tm .ptr (.elem h i sz o) =>
    match obOf G.nils S.x.objs h, P.underlying t with
    | some (κ, g), some d =>
      if sz = (G.cols κ).length ∧ inList S.x.conds i g = true then
        (if isAggD d then (match P.info? t with
          | some inf => if o + inf.size ≤ sz then (colsA g i o (((G.cols κ).drop o).take inf.size)).map .agg else none
          | none => none)
        else match (G.cols κ)[o]? with
          | some q => colA g i o q
          | none => none)
      else none
    | _, _ => none
  | _ => none

theorem colsA_sound {g i : Tm} {l : List (List Int)} {row : List Int} {m : Int} (hg : g.den E = some (.rows l)) (hi : i.den E = some (.int m)) (hr : l[m.toNat]? = some row) {cell : Nat → Option Value} :
    ∀ {qs : List TK} {c : Nat} {r : List AVal}, (∀ j q, qs[j]? = some q → ∃ z, row[c + j]? = some z ∧ (∀ kk, q = .int kk → (Lit.int kk z).wf = true) ∧ cell (c + j) = colV q z) → colsA g i c qs = some r →
    ∃ ys, VRs E r ys ∧ ys.length = qs.length ∧ ∀ j, j < ys.length → cell (c + j) = ys[j]?
  | [], c, r, _, hv => by
    simp only [colsA, Option.some.injEq] at hv; subst hv
    exact ⟨[], VRs.nil, rfl, fun j hj => by simp at hj⟩
  | q :: qs, c, r, hc, hv => by
    simp only [colsA] at hv
    split at hv
    · rename_i a m' ha hm
      obtain rfl := Option.some.inj hv
      obtain ⟨z, h1, h2, h3⟩ := hc 0 q (by simp)
      obtain ⟨y, g1, g2⟩ := colA_sound hg hi hr h1 h2 ha
      obtain ⟨ys, k1, k2, k3⟩ := colsA_sound hg hi hr (cell := cell) (qs := qs) (c := c + 1) (fun j q' hj => by
        have := hc (j + 1) q' (by simpa using hj)
        rw [show c + (j + 1) = c + 1 + j by omega] at this
        exact this) hm
      refine ⟨y :: ys, VRs.cons g2 k1, by simp [k2], fun j hj => ?_⟩
      cases j with
      | zero => rw [h3, g1]; rfl
      | succ j =>
        rw [show c + (j + 1) = c + 1 + j by omega, k3 j (by simpa using hj)]
        rfl
    · cases hv

theorem aloadS_sound (hx : XOk K E S.x w) (ha : VR E a x) (hv : aloadS P K S t a = some v) : ∃ y, (Instr.loadAt t x).run P w = .ok y w ∧ VR E v y := by
  unfold aloadS at hv
  split at hv
  · rename_i h i sz o
    split at hv
    · rename_i κ g d hob hd
      split at hv
      · rename_i hc
        obtain ⟨hsz, hin⟩ := hc
        simp only [VR] at ha
        obtain ⟨ad, e1, rfl⟩ := ha
        obtain ⟨b, off, n, cap, z, h1, h2, rfl⟩ := elem_den e1
        obtain ⟨a', n', cap', l, D, R, f1, f2, f3, f4, rfl, f6, f7⟩ := obOf_sound hx hob
        rw [h1] at f1
        simp only [Option.some.injEq, U.val.injEq, Value.slice.injEq] at f1
        obtain ⟨rfl, rfl, rfl⟩ := f1
        obtain ⟨h0, hlt⟩ := inList_sound hx.conds h2 f2 hin
        have hz : z.toNat < l.length := by omega
        have hrow : l[z.toNat]? = some l[z.toNat] := List.getElem?_eq_getElem hz
        have hcol := K.ob.hcol _ _ _ _ _ _ _ _ _ f3 f4 z.toNat _ hrow
        split at hv
        · rename_i hagg
          split at hv
          · rename_i inf hinf
            split at hv
            · rename_i hle
              simp only [Option.map_eq_some_iff] at hv
              obtain ⟨r, hr, rfl⟩ := hv
              have hsz' : sz = (K.ob.cols κ).length := hsz
              obtain ⟨ys, k1, k2, k3⟩ := colsA_sound f2 h2 hrow (cell := fun c => w.cell? ⟨b, off + z.toNat * sz + c, none⟩) (c := o) (qs := ((K.ob.cols κ).drop o).take inf.size)
                (fun j q hj => by
                  have hjl : j < inf.size := by
                    have := (List.getElem?_eq_some_iff.1 hj).1
                    simp at this; omega
                  rw [List.getElem?_take_of_lt hjl, List.getElem?_drop] at hj
                  obtain ⟨zz, g1, g2, g3⟩ := hcol (o + j) q hj
                  exact ⟨zz, g1, g2, by rw [hsz']; exact g3⟩) hr
              have hlen : ys.length = inf.size := by rw [k2]; simp; omega
              refine ⟨.agg ys.toArray, ?_, by simp only [VR]; exact ⟨ys, k1, rfl⟩⟩
              have hlc := run_loadCells (P := P) (w := w) (a := ⟨b, off + z.toNat * sz + o, none⟩) ys (fun j hj => by
                rw [add_plain, Nat.add_assoc]; exact k3 j hj)
              rw [hlen] at hlc
              simp [Instr.loadAt, Instr.sureAddr, loadVar, run_isAgg' hd, hagg, run_sizeOf' hinf, hlc]
            · cases hv
          · cases hv
        · rename_i hagg
          split at hv
          · rename_i q hq
            obtain ⟨zz, g1, g2, g3⟩ := hcol o q hq
            obtain ⟨y, k1, k2⟩ := colA_sound f2 h2 hrow g1 g2 hv
            refine ⟨y, ?_, k2⟩
            have hcell : w.cell? ⟨b, off + z.toNat * sz + o, none⟩ = some y := by
              have hsz' : sz = (K.ob.cols κ).length := hsz
              rw [hsz', g3, k1]
            simp [Instr.loadAt, Instr.sureAddr, loadVar, run_isAgg' hd, hagg, hcell]
          · cases hv
      · cases hv
    · cases hv
  · cases hv

end Go.Eng
