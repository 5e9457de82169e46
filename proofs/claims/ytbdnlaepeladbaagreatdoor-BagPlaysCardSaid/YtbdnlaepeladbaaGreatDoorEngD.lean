/- A machine that runs closed code, part 4 of 4: functions without a body, the keys of a map, the row's last word. Conditions: none. -/
import Derived.Test.YtbdnlaepeladbaaGreatDoorEngC
import Derived.Laws.LoneSync
import Derived.KernelRfl
import Derived.Below
import Derived.WalkKit
import Derived.ProofKit
import Derived.OpenShut
import Derived.Lib.SlKeysI
import Derived.Shelf.SlIter.Collect
import Derived.RangeFuncGives
import Derived.Maps.AppendAt
import Derived.Shelf.Abstract
import Derived.Shelf.Strings.OnBuilder
import Derived.LaidMore
import Derived.Lay
import Derived.FnData
import Derived.Shelf.SlicesE.Delete
namespace Go.Eng
open Go.RowKit

variable {P : Program} {K : Fix} {E F : Env} {S S' : St} {X : List (List Value)} {w w' : World} {a b v : AVal} {x y : Value} {t s : TypeId} {l r : List AVal} {xs : List Value} {i j n off f : Nat}

/-! ### functions without a body -/

inductive AExt where
  | ld (k : IntKind)
  | st
  | cas (k : IntKind)
  | bits
  | fromBits
  | clone

def AExt.sem : AExt → Array Value → Sem Value
  | .ld k => Extern.Atomic.loadT (.int k)
  | .st => Extern.Atomic.storeT
  | .cas k => Extern.Atomic.casT (.int k)
  | .bits => Extern.MathFloatBits.float64bits
  | .fromBits => Extern.MathFloatBits.float64frombits
  | .clone => Extern.MapsClone.clone

def cellAt (S : St) (b off : Nat) : Option AVal :=
  match S.heap[b]? with
  | some (.cells l _ _ _) => l[off]?
  | _ => none

theorem cellAt_sound {b c off : Nat} (h : Ok K E S X w) (hb : E.rho b = some c) (hv : cellAt S b off = some v) : ∃ x, w.cell? ⟨c, off, none⟩ = some x ∧ VR E v x := by
  unfold cellAt at hv
  split at hv
  · rename_i l e fz op ho
    obtain ⟨xs, h1, h2⟩ := h.cells hb ho rfl
    obtain ⟨x, g1, g2⟩ := h1.get hv
    refine ⟨x, ?_, g2⟩
    rw [h2 off (by rcases Nat.lt_or_ge off xs.length with g | g; exact g; simp [List.getElem?_eq_none g] at g1), g1]
  · simp at hv

theorem astore1_frozen {b c off : Nat} (h : Ok K E S X w) (hb : E.rho b = some c) (hs : astore1 S b off v = some S') : w.frozen? ⟨c, off, none⟩ = false := by
  unfold astore1 at hs
  split at hs
  · rename_i l e fz op ho
    split at hs
    · rename_i hh
      obtain ⟨g1, g2, g3⟩ := hh
      obtain ⟨c', u, h1, h2, h3, h4⟩ := h.obj b _ ho
      rw [hb] at h1; obtain rfl := Option.some.inj h1
      match op, h4 with
      | none, h4 =>
        obtain ⟨xs, r, rfl⟩ := h4
        simp only [World.frozen?, h3]; exact g3
      | some (q, sz), h4 =>
        obtain ⟨xs, tl, nn, r, k1, k2, rfl⟩ := h4
        simp only [World.frozen?, h3]; exact g3
    · simp at hs
  · simp at hs

def AExt.run (S : St) : AExt → List AVal → Option (AVal × St)
  | .ld k, [.ptr b off] => match cellAt S b off with
    | some (.lit (.int k' n)) => if k = k' then some (.lit (.int k' n), S) else none
    | _ => none
  | .st, [.ptr b off, v] => (astore1 S b off v).map fun S' => (.lit (.tuple #[]), S')
  | .cas k, [.ptr b off, .lit (.int _ o), v] => match cellAt S b off with
    | some (.lit (.int k' n)) => match astore1 S b off v with
      | none => none
      | some S' => if k ≠ k' then none else if n = o then some (.lit (.bool true), S') else some (.lit (.bool false), S)
    | _ => none
  | .bits, [.lit (.float .f64 m)] => some (.lit (.int .u64 m), S)
  | .fromBits, [.lit (.int .u64 m)] => some (.lit (.float .f64 m.toNat), S)
  | .clone, [.iface t (.map b)] => match S.heap[b]? with
    | some (.map es c) => some (.iface t (.map S.heap.length), anew S (.map es c))
    | _ => none
  | _, _ => none

theorem VRs.pair {a b : AVal} {xs : List Value} (h : VRs E [a, b] xs) : ∃ x y, xs = [x, y] ∧ VR E a x ∧ VR E b y := by
  simp only [VRs] at h
  obtain ⟨x, r, h1, ⟨y, r2, h2, rfl, rfl⟩, h3⟩ := h
  exact ⟨x, y, h3, h1, h2⟩

theorem AExt.run_sound {e : AExt} {args : List AVal} (h : Ok K E S X w) (hx : VRs E args xs) (hv : e.run S args = some (v, S')) :
    ∃ y w' E', (e.sem xs.toArray).run P w = .ok y w' ∧ VR E' v y ∧ Ok K E' S' X w' ∧ E.Le E' := by
  unfold AExt.run at hv
  split at hv
  · rename_i k b off
    obtain ⟨p, rfl, hp⟩ := hx.one
    simp only [VR] at hp; obtain ⟨c, hc, rfl⟩ := hp
    split at hv
    · rename_i k' n hcell
      split at hv
      · rename_i hk
        simp only [Option.some.injEq, Prod.mk.injEq] at hv; obtain ⟨rfl, rfl⟩ := hv; subst hk
        obtain ⟨x, g1, g2⟩ := cellAt_sound h hc hcell
        simp only [VR] at g2; subst g2
        refine ⟨.int k n, w, E, ?_, by simp only [VR], h, Env.Le.refl E⟩
        change (Sem.run P (do Extern.Atomic.read (.int k) (← asAddr (.pointer (some ⟨c, off, none⟩)))) w) = _
        simp [Extern.Atomic.read, asAddr, g1, Result.andThen]
      · simp at hv
    · simp at hv
  · rename_i b off u
    obtain ⟨p, y, rfl, hp, hy⟩ := hx.pair
    simp only [VR] at hp; obtain ⟨c, hc, rfl⟩ := hp
    simp only [Option.map_eq_some_iff, Prod.mk.injEq] at hv
    obtain ⟨S2, hs, rfl, rfl⟩ := hv
    obtain ⟨w', g1, g2⟩ := astore1_sound (P := P) (m := .atomic) h hc hy hs
    refine ⟨.tuple #[], w', E, ?_, by simp only [VR], g2, Env.Le.refl E⟩
    change (Sem.run P (do
      store (← asAddr (.pointer (some ⟨c, off, none⟩))) y .atomic
      pure Extern.Atomic.none_) w) = _
    simp [asAddr, g1, Result.andThen, Extern.Atomic.none_]
  · rename_i kk b off ko o u
    have hx3 := hx
    simp only [VRs] at hx
    obtain ⟨p, r, hp, ⟨q, r2, hq, ⟨y, r3, hy, rfl, rfl⟩, rfl⟩, rfl⟩ := hx
    simp only [VR] at hp; obtain ⟨c, hc, rfl⟩ := hp
    simp only [VR] at hq; subst hq
    split at hv
    · rename_i k' n hcell
      split at hv
      · simp at hv
      · rename_i S2 hs
        obtain ⟨x, g1, g2⟩ := cellAt_sound h hc hcell
        simp only [VR] at g2; subst g2
        have hz := astore1_frozen h hc hs
        obtain ⟨w', k1, k2⟩ := astore1_sound (P := P) (m := .atomic) h hc hy hs
        have hcas : ∀ (r : Result Value), (do
            let eq ← match Extern.Atomic.T.int kk, ← Extern.Atomic.read (.int kk) (⟨c, off, none⟩ : Addr), Value.int ko o with
              | _, .int _ x, .int _ y => pure (x == y)
              | .ptr, .pointer x, .pointer y => samePointer x y
              | .int _, .pointer (some _), .int _ 0 | .int _, .int _ 0, .pointer (some _) => pure false
              | .int _, .pointer (some _), _ | .int _, _, .pointer (some _) => unsupported .addressObserved
              | _, _, _ => stuck "atomic.CompareAndSwap: old is no T"
            if eq then store (⟨c, off, none⟩ : Addr) y .atomic
            pure (.bool eq) : Sem Value).run P w = r → ((AExt.cas kk).sem [.pointer (some ⟨c, off, none⟩), .int ko o, y].toArray).run P w = r := by
          intro r hr
          rw [← hr]
          change (Sem.run P (do
            let a' ← asAddr (.pointer (some ⟨c, off, none⟩))
            if ← Extern.Atomic.touchesFrozen a' then unsupported (.unsafePointer "a write to bytes that a string shares")
            let eq ← match Extern.Atomic.T.int kk, ← Extern.Atomic.read (.int kk) a', Value.int ko o with
              | _, .int _ x, .int _ y => pure (x == y)
              | .ptr, .pointer x, .pointer y => samePointer x y
              | .int _, .pointer (some _), .int _ 0 | .int _, .int _ 0, .pointer (some _) => pure false
              | .int _, .pointer (some _), _ | .int _, _, .pointer (some _) => unsupported .addressObserved
              | _, _, _ => stuck "atomic.CompareAndSwap: old is no T"
            if eq then store a' y .atomic
            pure (Value.bool eq) : Sem Value) w) = _
          simp [Extern.Atomic.touchesFrozen, asAddr, viewAt, World.shape?_isSome_of_cell? g1, hz, Result.andThen]
        split at hv
        · simp at hv
        · rename_i hk
          have hk : kk = k' := by simpa using hk
          subst hk
          split at hv
          · rename_i hno
            simp only [Option.some.injEq, Prod.mk.injEq] at hv; obtain ⟨rfl, rfl⟩ := hv
            refine ⟨.bool true, w', E, hcas _ ?_, by simp only [VR], k2, Env.Le.refl E⟩
            subst hno
            simp [Extern.Atomic.read, g1, k1, Result.andThen]
          · rename_i hno
            simp only [Option.some.injEq, Prod.mk.injEq] at hv; obtain ⟨rfl, rfl⟩ := hv
            refine ⟨.bool false, w, E, hcas _ ?_, by simp only [VR], h, Env.Le.refl E⟩
            simp [Extern.Atomic.read, g1, hno, Result.andThen]
    · simp at hv
  · rename_i m
    obtain ⟨p, rfl, hp⟩ := hx.one
    simp only [VR] at hp; subst hp
    simp only [Option.some.injEq, Prod.mk.injEq] at hv; obtain ⟨rfl, rfl⟩ := hv
    exact ⟨_, w, E, rfl, by simp only [VR], h, Env.Le.refl E⟩
  · rename_i m
    obtain ⟨p, rfl, hp⟩ := hx.one
    simp only [VR] at hp; subst hp
    simp only [Option.some.injEq, Prod.mk.injEq] at hv; obtain ⟨rfl, rfl⟩ := hv
    exact ⟨_, w, E, rfl, by simp only [VR], h, Env.Le.refl E⟩
  · rename_i t b
    obtain ⟨p, rfl, hp⟩ := hx.one
    simp only [VR] at hp
    obtain ⟨z, ⟨c, hc, rfl⟩, rfl⟩ := hp
    split at hv
    · rename_i es ck ho
      simp only [Option.some.injEq, Prod.mk.injEq] at hv; obtain ⟨rfl, rfl⟩ := hv
      obtain ⟨c', u, h1, h2, h3, h4⟩ := h.obj b _ ho
      rw [hc] at h1; obtain rfl := Option.some.inj h1
      obtain ⟨ms, k1, rfl⟩ := h4
      obtain ⟨E', w', g1, g2, g3, g4⟩ := anew_sound (P := P) (o := .map es ck) (u := .map ms.toArray ck) h ⟨ms, k1, rfl⟩
      refine ⟨.iface t (.map (some w.heap.size)), w', E', ?_, by simp only [VR]; exact ⟨_, ⟨_, g3, rfl⟩, rfl⟩, g4, g2⟩
      change (Sem.run P (do
        let .map entries clock ← getObj c | stuck "maps.clone: a map expected"
        pure (Value.iface t (.map (some (← newObj (.map entries clock)))))) w) = _
      simp only [Sem.run_bind, Go.Eng.run_getObj_map h3, Result.andThen_ok, g1, Sem.run_pure]
    · simp at hv
  · simp at hv

end Go.Eng

namespace Go.Eng
open Go.RowKit

variable {P : Program} {K : Fix} {E F : Env} {S S' : St} {X : List (List Value)} {w w' : World} {a b v : AVal} {x y : Value} {t s : TypeId} {l r : List AVal} {xs : List Value} {i j n off f : Nat}

abbrev ExtTab := List (FuncId × AExt)

def extOf (tab : ExtTab) : CallF := fun f args S =>
  match tab.find? (fun p => p.1 == f) with
  | some p => (p.2.run S args).map fun q => [q]
  | none => none

/-- The function that an extern's name stands for is the one that is told. -/
structure IsExt (P : Program) (f : FuncId) (e : AExt) : Prop where
  ex : ∃ fn, P.funcs[f]? = some fn ∧ (fn.name == "runtime.NumGoroutine") = false ∧ fn.body.isNone = true ∧ Extern.findNext fn = none ∧ Extern.find fn = some e.sem

def ExtsOk (P : Program) : ExtTab → Prop
  | [] => True
  | p :: l => IsExt P p.1 p.2 ∧ ExtsOk P l

theorem ExtsOk.mem : ∀ {tab : ExtTab} {p : FuncId × AExt}, ExtsOk P tab → p ∈ tab → IsExt P p.1 p.2
  | [], _, _, h => by simp at h
  | q :: l, p, h, hm => by
    rcases List.mem_cons.1 hm with rfl | hm
    · exact h.1
    · exact ExtsOk.mem h.2 hm

theorem extOf_ok {tab : ExtTab} (h : ExtsOk P tab) : ExtOk P K (extOf tab) := by
  intro f args S outs hv E X w xs hok hx
  unfold extOf at hv
  split at hv
  · rename_i p hp
    have hmem := List.mem_of_find?_eq_some hp
    have hpf : p.1 = f := by have := List.find?_some hp; simpa using this
    obtain ⟨fn, h1, h2, h3, h4, h5⟩ := (h.mem hmem).ex
    rw [hpf] at h1
    simp only [Option.map_eq_some_iff] at hv
    obtain ⟨⟨v, S'⟩, hr, rfl⟩ := hv
    obtain ⟨y, w', E', g1, g2, g3, g4⟩ := AExt.run_sound (P := P) hok hx hr
    refine ⟨v, S', y, w', E', List.mem_singleton.2 rfl, .inl ?_, g2, g3, g4⟩
    rw [run_callFunc_extern h1 h2 h3 h4 h5, g1]; rfl
  · simp at hv

/-- No block is told. -/
def S0 : St := ⟨[], [], [], Sx.nil⟩
def E0 (K : Fix) : Env := ⟨fun _ => none, fun _ => none, K.vars, K.ob.fn, fun _ _ => False, fun _ _ => False⟩

theorem ok0 (K : Fix) (hn : K.n0 = K.w0.heap.size) (hv : K.vars = fun _ => none) : Ok K (E0 K) S0 [] K.w0 where
  dom := by intro b h; simp [E0] at h
  obj := by intro b o h; simp [S0] at h
  inj := by intro b b' c h; simp [E0] at h
  kdom := by intro q h; simp [E0] at h
  lb := by intro q l h; simp [S0] at h
  below := Below.refl _ _
  base := by rw [hn]; exact Nat.le_refl _
  stk := by simp [S0, SR]
  x := by
    refine ⟨rfl, ?_, ?_, ?_, ?_, ?_, ?_, ?_, ?_, ?_⟩ <;> simp [S0, Sx.nil, E0, hv]

def noOracle : CallF := fun _ _ _ => none
theorem noOracle_ok : CallOk P K noOracle := by intro f args S outs h; simp [noOracle] at h

def isTrue : AVal → Bool
  | .lit (.bool true) => true
  | _ => false
theorem isTrue_eq {v : AVal} (h : isTrue v = true) : v = .lit (.bool true) := by
  unfold isTrue at h
  split at h
  · rfl
  · cases h

def allTrue (o : Option (List (AVal × St))) : Bool :=
  match o with
  | some l => l.all fun p => isTrue p.1
  | none => false

/-- A call of no arguments that the machine finds true, in whatever world. -/
theorem calls_true {call : CallF} (K : Fix) (hn : K.n0 = K.w0.heap.size) (hvs : K.vars = fun _ => none) (hc : CallOk P K call) (f : FuncId) (h : allTrue (call f [] S0) = true) :
    Calls P f #[] K.w0 fun e w' => e = .returned (.bool true) ∧ Below K.w0.heap.size K.w0 w' := by
  cases ho : call f [] S0 with
  | none => rw [ho] at h; cases h
  | some outs =>
    rw [ho] at h
    refine (hc f [] S0 outs ho (E0 K) [] K.w0 [] (ok0 K hn hvs) VRs.nil).mono ?_
    rintro e w' ⟨v, S', y, E', h1, rfl, h2, h3⟩
    simp only [allTrue, List.all_eq_true] at h
    have ht := isTrue_eq (h _ h1)
    have hb := h3.below
    rw [hn] at hb
    simp only at ht
    subst ht
    simp only [VR] at h2
    exact ⟨by rw [h2], hb⟩

end Go.Eng

namespace Go.Eng
open Go.ChangeShapes Go.WideShapes Go.ChangeAt Go.RowKit

variable {H : Type} {enc : TypeId × Value → H} {P : Program}

/-- A call that turns nothing of what was there keeps all. -/
theorem kept_of_below {W W' : World} (h : Below W.heap.size W W') (may : MemPlace → Prop) : W.keptBut W' may := by
  refine ⟨h.os, h.output, fun i hi => ?_⟩
  rw [h.block i hi]
  cases hx : W.heap[i]? with
  | none => trivial
  | some o => cases o <;> simp

theorem frozen_of_below {W W' : World} (h : Below W.heap.size W W') {a : Addr} (ha : a.block < W.heap.size) : W'.frozen? a = W.frozen? a := by
  unfold World.frozen?
  rw [h.block _ ha]

/-- The row's last word for a call that turns nothing of what was there. -/
theorem post_of_below {f : Func} {s : ChangeSpec} {apart fresh handsOn again : Bool} {W W' : World} {args : Array Value} {v : Value} {ds gs : List (DataW H)} {before pa pv : List MemPlace}
    (hW : DataW.Whole enc P f.params.toList s.vars apart W args.toList ds gs before)
    (hres : ∀ (b : Nat) (sp : Nat → Bool) (hd : Bool), DataW.TrodAll enc P W' b sp hd f.resultTypes.toList (v.resultList f.resultTypes.size) (s.fn H (ds ++ gs)).results [])
    (hargs : ∀ sp : Nat → Bool, (∀ p ∈ before, sp p.block = true) → DataW.TrodAll enc P W' 0 sp true f.params.toList args.toList (s.fn H (ds ++ gs)).args pa)
    (hvars : ∀ sp : Nat → Bool, (∀ p ∈ before, sp p.block = true) → DataW.TrodVars enc P W' sp s.vars (s.fn H (ds ++ gs)).vars pv)
    (hps : before = pa ++ pv) (hB : Below W.heap.size W W')
    (hok : ∀ (j : Nat) (t : TypeId) (r : Value), f.resultTypes[j]? = some t → (v.resultList f.resultTypes.size)[j]? = some r → Value.okWide P W' .any 0 t r) :
    s.post enc P f apart fresh handsOn again W args v W' := by
  have hlt := hW.lt
  have hold : ∀ p ∈ before, (fun b => decide (b < W.heap.size)) p.block = true := fun p hp => by simpa using hlt p hp
  refine ⟨ds, gs, before, [], pa, pv, hW, hres _ _ _, hargs _ hold, hvars _ hold, kept_of_below hB _, fun _ => ?_⟩
  obtain ⟨_, _, _, _, _, hz, hn⟩ := hW
  refine ⟨hok, _, _, ([] ++ pa) ++ pv, ⟨[] ++ pa, pv, trodAll_append (hargs _ (fun _ _ => rfl)) (hres _ _ _), hvars _ (fun _ _ => rfl), rfl, ?_, ?_⟩, ?_⟩
  · intro b off hp
    have hp' : MemPlace.cell b off ∈ before := by rw [hps]; simpa using hp
    rw [frozen_of_below hB (hlt _ hp')]
    exact hz b off hp'
  · intro ha
    have := hn ha
    rw [hps] at this
    simpa using this
  · intro p hp _
    rw [hps]
    simpa using hp

end Go.Eng

namespace Go.Eng
open Go.RowKit

variable {P : Program} {K : Fix} {E F : Env} {S S' : St} {X : List (List Value)} {w w' : World} {a b v : AVal} {x y : Value} {t s : TypeId} {l r : List AVal} {xs : List Value} {i j n off f : Nat}

/-! ### functions that are told by what they do with objects -/

inductive ArgK
  | int (k : IntKind)
  | bool
  | str
  | list (κ : Nat)
  | row (k : IntKind)
  | agg (l : List ArgK)

def rowTms (k : IntKind) : List AVal → Option (List Tm)
  | [] => some []
  | a :: l => match tmInt a, rowTms k l with
    | some (k', t), some ts => if k = k' then some (t :: ts) else none
    | _, _ => none

theorem rowTms_sound {k : IntKind} : ∀ {l : List AVal} {ts : List Tm} {xs : List Value}, rowTms k l = some ts → VRs E l xs →
    ∃ zs : List Int, dens E ts = some (zs.map U.int) ∧ xs = zs.map (Value.int k) ∧ ∀ z ∈ zs, (Lit.int k z).wf = true
  | [], ts, xs, h, hv => by
    simp only [rowTms, Option.some.injEq] at h; subst h
    simp only [VRs] at hv; subst hv
    exact ⟨[], rfl, rfl, by simp⟩
  | a :: l, ts, xs, h, hv => by
    simp only [rowTms] at h
    split at h
    · rename_i k' t us h1 h2
      split at h
      · rename_i hk
        subst hk
        obtain rfl := Option.some.inj h
        simp only [VRs] at hv
        obtain ⟨x, r, g1, g2, rfl⟩ := hv
        obtain ⟨z, e1, e2, rfl⟩ := tmInt_sound g1 h1
        obtain ⟨zs, f1, rfl, f3⟩ := rowTms_sound h2 g2
        refine ⟨z :: zs, by simp only [dens, e1, f1, List.map_cons], rfl, fun y hy => ?_⟩
        rcases List.mem_cons.1 hy with rfl | hy
        · exact e2
        · exact f3 y hy
      · cases h
    · cases h

mutual
def readA (nl : Nat → Bool) (look : Nat → Tm → Option (List Tm)) (S : St) : ArgK → AVal → Option (List Tm)
  | .int k, a => match tmInt a with
    | some (k', t) => if k = k' then some [t] else none
    | none => none
  | .bool, a => (tmBool a).map fun t => [t]
  | .str, a => (tmStr a).map fun t => [t]
  | .list κ, a => match a with
    | .tm .any h => look κ h
    | .lit (.slice none 0 0) => if nl κ = true then some [.rows []] else none
    | _ => none
  | .row k, a => match a with
    | .slice b off len _ _ => match S.heap[b]? with
      | some o => match cellsOf o with
        | some l => match sub l off len with
          | some r => rowTms k r
          | none => none
        | none => none
      | none => none
    | .lit (.slice none 0 0) => some []
    | _ => none
  | .agg ks, a => match a with
    | .agg l => readAs nl look S ks l
    | .lit (.agg vs) => readAs nl look S ks (vs.toList.map .lit)
    | _ => none
def readAs (nl : Nat → Bool) (look : Nat → Tm → Option (List Tm)) (S : St) : List ArgK → List AVal → Option (List Tm)
  | [], [] => some []
  | k :: ks, a :: l => match readA nl look S k a, readAs nl look S ks l with
    | some p, some q => some (p ++ q)
    | _, _ => none
  | _, _ => none
end

mutual
/-- How an argument lies in memory. -/
def ArgR (K : Fix) (E : Env) (w : World) (D RO : Nat → Prop) : ArgK → List Tm → Value → Prop
  | .int k, ts, x => ∃ t z, ts = [t] ∧ t.den E = some (.int z) ∧ (Lit.int k z).wf = true ∧ x = .int k z
  | .bool, ts, x => ∃ t z, ts = [t] ∧ t.den E = some (.bool z) ∧ x = .bool z
  | .str, ts, x => ∃ t z, ts = [t] ∧ t.den E = some (.str z) ∧ x = .string z
  | .list κ, ts, x => ∃ us D1 R1, dens E ts = some us ∧ K.ob.obj κ x us w D1 R1 ∧ (∀ c, R1 c → RO c) ∧ ∀ c, D1 c → ¬ D c
  | .row k, ts, x => ∃ zs : List Int, dens E ts = some (zs.map U.int) ∧ (∀ z ∈ zs, (Lit.int k z).wf = true) ∧
    ((∃ c off cap, x = .slice (some ⟨c, off, none⟩) zs.length cap ∧ c < w.heap.size ∧ ¬ D c ∧ ∀ i z, zs[i]? = some z → w.cell? ⟨c, off + i, none⟩ = some (.int k z)) ∨ (x = .slice none 0 0 ∧ zs = []))
  | .agg ks, ts, x => ∃ xs, ArgRs K E w D RO ks ts xs ∧ x = .agg xs.toArray
def ArgRs (K : Fix) (E : Env) (w : World) (D RO : Nat → Prop) : List ArgK → List Tm → List Value → Prop
  | [], ts, xs => ts = [] ∧ xs = []
  | k :: ks, ts, xs => ∃ ta tb x r, ts = ta ++ tb ∧ ArgR K E w D RO k ta x ∧ ArgRs K E w D RO ks tb r ∧ xs = x :: r
end

/-- What a look among the objects tells. -/
def LookOk (K : Fix) (E : Env) (w : World) (D RO : Nat → Prop) (look : Nat → Tm → Option (List Tm)) : Prop :=
  ∀ κ h gs, look κ h = some gs → ∃ v us D1 R1, h.den E = some (.val v) ∧ dens E gs = some us ∧ K.ob.obj κ v us w D1 R1 ∧ (∀ c, R1 c → RO c) ∧ ∀ c, D1 c → ¬ D c

mutual
theorem readA_sound {D RO : Nat → Prop} {look : Nat → Tm → Option (List Tm)} (hok : Ok K E S X w) (hDn : ∀ b c, E.rho b = some c → ¬ D c) (hl : LookOk K E w D RO look) :
    ∀ {k : ArgK} {a : AVal} {x : Value} {ts : List Tm}, readA K.ob.nils look S k a = some ts → VR E a x → ArgR K E w D RO k ts x
  | .int k, a, x, ts, h, hv => by
    simp only [readA] at h
    split at h
    · rename_i k' u hu
      split at h
      · rename_i hk
        subst hk
        obtain rfl := Option.some.inj h
        obtain ⟨z, h1, h2, h3⟩ := tmInt_sound hv hu
        simp only [ArgR]; exact ⟨u, z, rfl, h1, h2, h3⟩
      · cases h
    · cases h
  | .bool, a, x, ts, h, hv => by
    simp only [readA, Option.map_eq_some_iff] at h
    obtain ⟨u, hu, rfl⟩ := h
    obtain ⟨z, h1, h2⟩ := tmBool_sound hv hu
    simp only [ArgR]; exact ⟨u, z, rfl, h1, h2⟩
  | .str, a, x, ts, h, hv => by
    simp only [readA, Option.map_eq_some_iff] at h
    obtain ⟨u, hu, rfl⟩ := h
    obtain ⟨z, h1, h2⟩ := tmStr_sound hv hu
    simp only [ArgR]; exact ⟨u, z, rfl, h1, h2⟩
  | .list κ, a, x, ts, h, hv => by
    simp only [readA] at h
    split at h
    · obtain ⟨v, us, D1, R1, h1, h2, h3, h4, h5⟩ := hl _ _ _ h
      simp only [VR] at hv
      rw [hv.1] at h1
      simp only [Option.some.injEq, U.val.injEq] at h1
      subst h1
      simp only [ArgR]
      exact ⟨us, D1, R1, h2, h3, h4, h5⟩
    · split at h
      · rename_i hn
        obtain rfl := Option.some.inj h
        simp only [VR] at hv; subst hv
        simp only [ArgR]
        exact ⟨[.rows []], _, _, rfl, K.ob.hnil κ w hn, fun c hc => hc.elim, fun c hc => hc.elim⟩
      · cases h
    · cases h
  | .row k, a, x, ts, h, hv => by
    simp only [readA] at h
    split at h
    · rename_i b off len m q
      split at h
      · rename_i o ho
        split at h
        · rename_i l hcl
          split at h
          · rename_i r hr
            simp only [VR] at hv
            obtain ⟨c, cap, hc, hcap, rfl⟩ := hv
            obtain ⟨ys, h1, h2⟩ := hok.cells hc ho hcl
            obtain ⟨r1, r2⟩ := sub_rel h1 hr
            obtain ⟨zs, f1, f2, f3⟩ := rowTms_sound h r1
            have hlen : zs.length = len := by
              have := congrArg List.length f2
              simp at this; omega
            simp only [ArgR]
            refine ⟨zs, f1, f3, .inl ⟨c, off, cap, by rw [hlen], hok.lt hc, hDn _ _ hc, fun i z hz => ?_⟩⟩
            have hi := (List.getElem?_eq_some_iff.1 hz).1
            rw [h2 _ (by omega)]
            have h3 : ((ys.drop off).take len)[i]? = (zs.map (Value.int k))[i]? := by rw [f2]
            rw [List.getElem?_take_of_lt (by omega), List.getElem?_drop] at h3
            rw [h3, List.getElem?_map, hz]; rfl
          · cases h
        · cases h
      · cases h
    · simp only [VR] at hv; subst hv
      obtain rfl := Option.some.inj h
      simp only [ArgR]
      exact ⟨[], rfl, by simp, by simp⟩
    · cases h
  | .agg ks, a, x, ts, h, hv => by
    simp only [readA] at h
    split at h
    · simp only [VR] at hv
      obtain ⟨xs, h1, rfl⟩ := hv
      simp only [ArgR]
      exact ⟨xs, readAs_sound hok hDn hl h h1, rfl⟩
    · simp only [VR] at hv; subst hv
      simp only [ArgR]
      exact ⟨_, readAs_sound hok hDn hl h (VRs.lits _), by simp⟩
    · cases h
theorem readAs_sound {D RO : Nat → Prop} {look : Nat → Tm → Option (List Tm)} (hok : Ok K E S X w) (hDn : ∀ b c, E.rho b = some c → ¬ D c) (hl : LookOk K E w D RO look) :
    ∀ {ks : List ArgK} {l : List AVal} {xs : List Value} {ts : List Tm}, readAs K.ob.nils look S ks l = some ts → VRs E l xs → ArgRs K E w D RO ks ts xs
  | [], [], xs, ts, h, hv => by
    simp only [readAs, Option.some.injEq] at h
    simp only [VRs] at hv
    simp only [ArgRs]; exact ⟨h.symm, hv⟩
  | [], _ :: _, xs, ts, h, hv => by simp [readAs] at h
  | _ :: _, [], xs, ts, h, hv => by simp [readAs] at h
  | k :: ks, a :: l, xs, ts, h, hv => by
    simp only [readAs] at h
    split at h
    · rename_i p q hp hq
      obtain rfl := Option.some.inj h
      simp only [VRs] at hv
      obtain ⟨x, r, h1, h2, rfl⟩ := hv
      simp only [ArgRs]
      exact ⟨p, q, x, r, rfl, readA_sound hok hDn hl hp h1, readAs_sound hok hDn hl hq h2, rfl⟩
    · cases h
end

/-- What a function does, told of objects: its receiver's kind; how its arguments are read; its result; the receiver's new state; new objects, and how many new unknowns. -/
structure Spec where
  f : FuncId
  recv : Option Nat
  args : List ArgK
  res : List Tm → List Tm → Nat → AVal
  gs' : List Tm → List Tm → Nat → List Tm
  news : List Tm → List Tm → Nat → List AOb
  nn : Nat
  /-- Which lists must be short, for it to be so. -/
  need : List Tm → List Tm → Option (List (Tm × Nat)) := fun _ _ => some []

structure SpecPost (K : Fix) (E : Env) (s : Spec) (gs ts : List Tm) (v : Value) (w : World) (nv : Nat) (D RO : Nat → Prop) (w' : World) (y : Value) (us : List U) (D' R' : Nat → Prop) (Dn Rn : Nat → Nat → Prop) : Prop where
  len : us.length = s.nn
  res : VR (E.ext nv us) (s.res gs ts nv) y
  recv : ∀ κ, s.recv = some κ → ∃ gU, dens (E.ext nv us) (s.gs' gs ts nv) = some gU ∧ K.ob.obj κ v gU w' D' R'
  news : ∀ j o, (s.news gs ts nv)[j]? = some o → ∃ h gU, o.h.den (E.ext nv us) = some (.val h) ∧ dens (E.ext nv us) o.gs = some gU ∧ K.ob.obj o.kind h gU w' (Dn j) (Rn j)
  upto : Upto0 D w w'
  dd : ∀ c, D' c → (D c ∨ w.heap.size ≤ c) ∧ c < w'.heap.size
  rr : ∀ c, R' c → (RO c ∨ w.heap.size ≤ c) ∧ c < w'.heap.size ∧ ¬ D' c
  dn : ∀ j c, Dn j c → w.heap.size ≤ c ∧ c < w'.heap.size ∧ ¬ D' c ∧ ¬ R' c ∧ ∀ k, k ≠ j → ¬ Dn k c
  rn : ∀ j c, Rn j c → (RO c ∨ w.heap.size ≤ c) ∧ c < w'.heap.size ∧ ¬ D' c ∧ ∀ k, ¬ Dn k c

/-- What is given of the receiver. -/
def RecvR (K : Fix) (E : Env) (w : World) (D R : Nat → Prop) : Option Nat → List Tm → List Value → Value → Prop
  | none, gs, vs, _ => gs = [] ∧ vs = [] ∧ ∀ c, ¬ D c
  | some κ, gs, vs, v => vs = [v] ∧ (∃ a, v = .pointer (some a)) ∧ ∃ gU, dens E gs = some gU ∧ K.ob.obj κ v gU w D R

/-- What is asked of lists. -/
def NeedR (E : Env) (o : Option (List (Tm × Nat))) : Prop := ∃ l, o = some l ∧ ∀ p ∈ l, ∀ r, p.1.den E = some (.rows r) → r.length < p.2
def needOk (cs : Conds) : Option (List (Tm × Nat)) → Bool
  | none => false
  | some l => l.all fun p => match lenHi cs p.1 with
    | some h => decide (h < p.2)
    | none => false
theorem needOk_sound {cs : Conds} {o : Option (List (Tm × Nat))} (hc : CondsOk E cs) (h : needOk cs o = true) : NeedR E o := by
  cases o with
  | none => cases h
  | some l =>
    refine ⟨l, rfl, fun p hp r hr => ?_⟩
    have := List.all_eq_true.1 h p hp
    split at this
    · rename_i c hcc
      have h1 := lenHi_sound hc hr hcc
      have h2 := of_decide_eq_true this
      omega
    · cases this

def SpecOk (P : Program) (K : Fix) (s : Spec) : Prop :=
  ∀ (E : Env) (nv : Nat) (gs ts : List Tm) (vs : List Value) (v : Value) (xs : List Value) (w : World) (D R RO : Nat → Prop), E.fn = K.ob.fn → (∀ n, (E.var n).isSome → n < nv) →
    RecvR K E w D R s.recv gs vs v → (∀ c, D c → c < w.heap.size) → (∀ c, RO c → c < w.heap.size ∧ ¬ D c) → (∀ c, R c → RO c) → ArgRs K E w D RO s.args ts xs → NeedR E (s.need gs ts) →
    Calls P s.f (vs ++ xs).toArray w fun e w' => ∃ y us D' R' Dn Rn, e = .returned y ∧ SpecPost K E s gs ts v w nv D RO w' y us D' R' Dn Rn

def lookAll (S : St) (κ : Nat) (h : Tm) : Option (List Tm) := (findOb κ h S.x.objs 0).map fun p => p.2.gs
/-- Not the one that is written. -/
def lookBut (i : Nat) (S : St) (κ : Nat) (h : Tm) : Option (List Tm) :=
  match findOb κ h S.x.objs 0 with
  | some (k, o) => if k = i then none else some o.gs
  | none => none

def specRun (nl : Nat → Bool) (s : Spec) (S : St) (args : List AVal) : Option (List (AVal × St)) :=
  match s.recv with
  | none => ((readAs nl (lookAll S) S s.args args).bind fun ts => if needOk S.x.conds (s.need [] ts) = true then some ts else none).map fun ts => [(norm S.x.conds (s.res [] ts S.x.nv), { S with x := { S.x with objs := S.x.objs ++ s.news [] ts S.x.nv, nv := S.x.nv + s.nn } })]
  | some κ =>
    match args with
    | .tm .ptr h :: rest =>
      match findOb κ h S.x.objs 0 with
      | some (i, o) => ((readAs nl (lookBut i S) S s.args rest).bind fun ts => if needOk S.x.conds (s.need o.gs ts) = true then some ts else none).map fun ts =>
        [(norm S.x.conds (s.res o.gs ts S.x.nv), { S with x := { S.x with objs := S.x.objs.set i ⟨κ, h, s.gs' o.gs ts S.x.nv⟩ ++ s.news o.gs ts S.x.nv, nv := S.x.nv + s.nn } })]
      | none => none
    | _ => none

end Go.Eng

namespace Go.Eng
open Go.RowKit

variable {P : Program} {K : Fix} {E F : Env} {S S' : St} {X : List (List Value)} {w w' : World} {a b v : AVal} {x y : Value} {t s : TypeId} {l r : List AVal} {xs : List Value} {i j n off f : Nat}

def specOracle (nl : Nat → Bool) (s : Spec) : CallF := fun f args S => if f = s.f then specRun nl s S args else none

theorem specOracle_ok {s : Spec} (hs : SpecOk P K s) : CallOk P K (specOracle K.ob.nils s) := by
  intro f args S outs hv E X w xs hok hxs
  unfold specOracle at hv
  split at hv
  rotate_left
  · cases hv
  rename_i hf
  subst hf
  unfold specRun at hv
  cases hr : s.recv with
  | none =>
    rw [hr] at hv
    simp only [Option.map_eq_some_iff, Option.bind_eq_some_iff] at hv
    obtain ⟨ts', ⟨ts, hts, hnd⟩, rfl⟩ := hv
    split at hnd
    rotate_left
    · cases hnd
    rename_i hneed
    have hnd := Option.some.inj hnd
    subst hnd
    have hneed := needOk_sound hok.x.conds hneed
    have hlook : LookOk K E w (fun _ => False) (fun c => ∃ p, p < S.x.objs.length ∧ E.pp p c) (lookAll S) := by
      intro κ h gs hg
      unfold lookAll at hg
      simp only [Option.map_eq_some_iff] at hg
      obtain ⟨⟨k, o⟩, hf, rfl⟩ := hg
      obtain ⟨_, h1, rfl, rfl⟩ := findOb_sound hf
      simp only [Nat.sub_zero] at h1
      have hk := (List.getElem?_eq_some_iff.1 h1).1
      obtain ⟨v, us, e1, e2, e3⟩ := hok.x.objs k o h1
      exact ⟨v, us, _, _, e1, e2, e3, fun c hc => ⟨k, hk, hc⟩, fun c _ h => h⟩
    have hargs := readAs_sound hok (fun _ _ _ h => h) hlook hts hxs
    refine (hs E S.x.nv [] ts [] (.bool false) xs w (fun _ => False) (fun _ => False) (fun c => ∃ p, p < S.x.objs.length ∧ E.pp p c) hok.x.fn hok.x.vars
      (by rw [hr]; exact ⟨rfl, rfl, fun _ h => h⟩) (fun c h => h.elim) (fun c ⟨p, hp, hc⟩ => ⟨hok.x.pbnd p c hp hc, fun h => h⟩) (fun c h => h.elim) hargs hneed).mono ?_
    rintro e w' ⟨y, us, D', R', Dn, Rn, rfl, hp⟩
    have hx := hok.x.after (isI := fun _ => False) (D := fun _ => False) (RO := fun c => ∃ p, p < S.x.objs.length ∧ E.pp p c) (us := us) (objs := S.x.objs ++ s.news [] ts S.x.nv) (news := s.news [] ts S.x.nv) hok.base hp.upto
      (fun p h => h.elim) (fun p q h => h.elim) (fun c h => h.elim) (fun p c h => h.elim) (fun c h => h) hp.dd hp.rr hp.dn hp.rn (by simp)
      (fun p hp' _ => by rw [List.getElem?_append_left hp']) (fun p o h => h.elim)
      (fun p o hp' ho => by
        rw [List.getElem?_append_right hp'] at ho
        exact hp.news _ o ho)
      (fun b c h => hok.lt h)
    have hres := hok.after (D := fun _ => False) (nn := us.length) hp.upto (fun c h => h.elim) rfl hx
    refine ⟨_, _, y, _, List.mem_singleton.2 rfl, rfl, ?_, by rw [← hp.len]; exact hres⟩
    have hnv := norm_sound (hres.x.conds) (a := s.res [] ts S.x.nv) (x := y) (E := _) ?_
    · exact hnv
    · have := hp.res
      exact VR.foot this
  | some κ =>
    rw [hr] at hv
    simp only at hv
    split at hv
    rotate_left
    · cases hv
    rename_i h rest
    split at hv
    rotate_left
    · cases hv
    rename_i i o hfo
    simp only [Option.map_eq_some_iff, Option.bind_eq_some_iff] at hv
    obtain ⟨ts', ⟨ts, hts, hnd⟩, rfl⟩ := hv
    split at hnd
    rotate_left
    · cases hnd
    rename_i hneed
    have hnd := Option.some.inj hnd
    subst hnd
    have hneed := needOk_sound hok.x.conds hneed
    obtain ⟨_, h1, rfl, rfl⟩ := findOb_sound hfo
    simp only [Nat.sub_zero] at h1
    have hi := (List.getElem?_eq_some_iff.1 h1).1
    simp only [VRs, VR] at hxs
    obtain ⟨v, xr, ⟨a, hva, rfl⟩, hxr, rfl⟩ := hxs
    obtain ⟨v', gU, e1, e2, e3⟩ := hok.x.objs i o h1
    rw [hva] at e1
    simp only [Option.some.injEq, U.val.injEq] at e1
    subst e1
    have hlook : LookOk K E w (E.fp i) (fun c => ∃ p, p < S.x.objs.length ∧ E.pp p c) (lookBut i S) := by
      intro κ h gs hg
      unfold lookBut at hg
      split at hg
      · rename_i k o' hf
        split at hg
        · cases hg
        · rename_i hne
          obtain rfl := Option.some.inj hg
          obtain ⟨_, h1', rfl, rfl⟩ := findOb_sound hf
          simp only [Nat.sub_zero] at h1'
          have hk := (List.getElem?_eq_some_iff.1 h1').1
          obtain ⟨v, us, e1, e2, e3⟩ := hok.x.objs k o' h1'
          exact ⟨v, us, _, _, e1, e2, e3, fun c hc => ⟨k, hk, hc⟩, hok.x.odis k i hk hi hne⟩
      · cases hg
    have hargs := readAs_sound hok (fun b c hb => (hok.x.onam i b c hi hb).1) hlook hts hxr
    refine (hs E S.x.nv o.gs ts [.pointer (some a)] (.pointer (some a)) xr w (E.fp i) (E.pp i) (fun c => ∃ p, p < S.x.objs.length ∧ E.pp p c) hok.x.fn hok.x.vars
      (by rw [hr]; exact ⟨rfl, ⟨a, rfl⟩, gU, e2, e3⟩) (fun c h => (hok.x.obnd i c hi h).2) (fun c ⟨p, hp, hc⟩ => ⟨hok.x.pbnd p c hp hc, hok.x.opp p i hp hi c hc⟩) (fun c h => ⟨i, hi, h⟩) hargs hneed).mono ?_
    rintro e w' ⟨y, us, D', R', Dn, Rn, rfl, hp⟩
    have hx := hok.x.after (isI := fun p => p = i) (D := E.fp i) (RO := fun c => ∃ p, p < S.x.objs.length ∧ E.pp p c) (us := us) (objs := S.x.objs.set i ⟨o.kind, o.h, s.gs' o.gs ts S.x.nv⟩ ++ s.news o.gs ts S.x.nv) (news := s.news o.gs ts S.x.nv) hok.base hp.upto
      (fun p h => by rw [h]; exact hi) (fun p q h k => by rw [h, k]) (fun c h => ⟨i, rfl, h⟩) (fun p c h hc => by rw [h] at hc; exact hc) (fun c h => h) hp.dd hp.rr hp.dn hp.rn (by simp)
      (fun p hp' hne => by rw [getElem?_set_append hi, if_neg hne, if_pos hp'])
      (fun p o' hpi ho => by
        rw [hpi, getElem?_set_append hi, if_pos rfl] at ho
        obtain rfl := Option.some.inj ho
        obtain ⟨gU', f1, f2⟩ := hp.recv _ hr
        exact ⟨_, gU', Tm.den_mono (ext_le hok.x.vars) _ _ hva, f1, f2⟩)
      (fun p o' hp' ho => by
        rw [getElem?_set_append hi, if_neg (by omega), if_neg (by omega)] at ho
        exact hp.news _ o' ho)
      (fun b c h => hok.lt h)
    have hres := hok.after (D := E.fp i) (nn := us.length) hp.upto (fun c h => ⟨i, hi, h⟩) rfl hx
    refine ⟨_, _, y, _, List.mem_singleton.2 rfl, rfl, ?_, by rw [← hp.len]; exact hres⟩
    have hnv := norm_sound (hres.x.conds) (a := s.res o.gs ts S.x.nv) (x := y) (E := _) ?_
    · exact hnv
    · have := hp.res
      exact VR.foot this

end Go.Eng

namespace Go.Eng
open Go.Maps Go.Proofs

abbrev encQ (q : IntKind) : Int → Value := Value.int q
theorem encQ_inj {q : IntKind} {x y : Int} (h : encQ q x = encQ q y) : x = y := by simpa [encQ] using h

theorem keyOf_q {P : Program} {q : IntKind} {k : TypeId} (hk : P.underlying k = some (.int q)) {key : Value} {kl : Lit} (h : keyOf P k key = some kl) : ∃ x : Int, key = (encQ q) x ∧ kl = .int q x ∧ (Lit.int q x).wf = true := by
  cases key <;> simp [keyOf, hk, mapKey] at h
  rename_i q2 a
  obtain ⟨⟨rfl, hw⟩, rfl⟩ := h
  exact ⟨a, rfl, rfl, hw⟩

theorem perm_intKeysQ {H : Type} {q : IntKind} {es : List (Lit × DataW H)} (hp : es.Pairwise (fun p q => p.1 ≠ q.1)) (hk : ∀ p ∈ es, ∃ x, p.1 = .int q x) {ss : List Int} (hnd : ss.Nodup) (hm : ∀ x, x ∈ ss ↔ has (.map es) (.int q x) = true) :
    ss.Perm (intKeys (.map es)) := by
  refine (List.perm_ext_iff_of_nodup hnd ?_).2 fun x => ?_
  · show (es.map fun p => intOf p.1).Nodup
    refine List.pairwise_map.2 (hp.imp_of_mem fun {p q} hp' hq' hne e => hne ?_)
    obtain ⟨a, ha⟩ := hk p hp'
    obtain ⟨b, hb⟩ := hk q hq'
    rw [ha, hb] at e ⊢
    exact congrArg _ e
  · rw [hm x, has_eq, List.any_eq_true]
    show _ ↔ x ∈ es.map fun p => intOf p.1
    rw [List.mem_map]
    constructor
    · rintro ⟨p, hp', hs⟩
      obtain ⟨a, ha⟩ := hk p hp'
      rw [ha] at hs
      exact ⟨p, hp', by rw [ha]; simpa [Lit.sameKey, intOf] using hs⟩
    · rintro ⟨p, hp', rfl⟩
      obtain ⟨a, ha⟩ := hk p hp'
      exact ⟨p, hp', by rw [ha]; simp [Lit.sameKey, intOf]⟩

def CollectedQ {H : Type} (q : IntKind) (D0 : DataW H) (left : Lit → Bool) (ss : List Int) : Prop := ss.Nodup ∧ ∀ x, x ∈ ss ↔ (has D0 (.int q x) = true ∧ left (.int q x) = false)

section
variable {H : Type} {q : IntKind} {D0 : DataW H} {left : Lit → Bool} {ss : List Int}

theorem CollectedQ.start (q : IntKind) (D0 : DataW H) : CollectedQ q D0 (has D0) [] := ⟨List.nodup_nil, fun x => by cases has D0 (.int q x) <;> simp⟩

theorem CollectedQ.step (h : CollectedQ q D0 left ss) {x : Int} {y : DataW H} (hlk : left (.int q x) = true) (hat : ∀ zd, D0.atKey (.int q x) zd = y) : CollectedQ q D0 (fun z => left z && !z.sameKey (.int q x)) (ss ++ [x]) := by
  have hhas : has D0 (.int q x) = true := has_true_of_atKey hat
  have hnew : x ∉ ss := fun hx => by have := ((h.2 x).1 hx).2; rw [hlk] at this; cases this
  refine ⟨List.nodup_append.2 ⟨h.1, by simp, fun a ha b hb => by simp at hb; subst hb; exact fun e => hnew (e ▸ ha)⟩, fun y => ?_⟩
  by_cases hy : y = x
  · subst hy; simp [hhas, Lit.sameKey]
  · simp [h.2 y, hy, Lit.sameKey]

variable {P : Program} {k : TypeId} {R : Value → Option (DataW H × List MemPlace)} {w : World} {b n : Nat}

theorem CollectedQ.perm (h : CollectedQ q D0 left ss) (hown : w.ownsMap P k R b n D0) (K : Keyed P k) (hk : P.underlying k = some (.int q)) (hl : ∀ kl, left kl = false) : ss.Perm (intKeys D0) := by
  obtain ⟨es, hD, hpw, _⟩ := hown.entries K
  obtain ⟨es', hD', hko⟩ := hown.keysOf
  obtain rfl : es = es' := by rw [hD] at hD'; simpa using hD'
  subst hD
  exact perm_intKeysQ hpw (fun p hp => by obtain ⟨v, hv⟩ := hko p hp; obtain ⟨x, _, hx, _⟩ := keyOf_q hk hv; exact ⟨x, hx⟩) h.1 (fun x => by rw [h.2 x, hl]; simp)


end

end Go.Eng

namespace Go.Eng
open Go.RowKit Go.Maps Go.Sort Go.Shelf Go.Proofs
variable {P : Program} {ρ : Ren}

structure LaysQ.n8 (q : IntKind) (P : Program) (ρ : Ren) : Prop where
  mixed : P.follows .mixedOrders = true
  f8 : Bears P (ρ.f 8) (SlBodyZ.n8 ρ)
  f11 : Bears P (ρ.f 11) (SlBodyZ.n11 ρ)
  t0 : P.underlying (ρ.t 0) = some (TypeDesc.tuple #[])
  a0 : ∀ w, (isAgg (ρ.t 0)).run P w = .ok false w
  z0 : ∀ w, (Go.sizeOf (ρ.t 0)).run P w = .ok 1 w
  v0 : ∀ w, (zeroValue (ρ.t 0)).run P w = .ok (Value.tuple #[]) w
  t24 : P.underlying (ρ.t 24) = some (TypeDesc.slice (ρ.t 26))
  a24 : ∀ w, (isAgg (ρ.t 24)).run P w = .ok false w
  z24 : ∀ w, (Go.sizeOf (ρ.t 24)).run P w = .ok 1 w
  v24 : ∀ w, (zeroValue (ρ.t 24)).run P w = .ok (Value.slice none 0 0) w
  t26 : P.underlying (ρ.t 26) = some (TypeDesc.int q)
  a26 : ∀ w, (isAgg (ρ.t 26)).run P w = .ok false w
  z26 : ∀ w, (Go.sizeOf (ρ.t 26)).run P w = .ok 1 w
  v26 : ∀ w, (zeroValue (ρ.t 26)).run P w = .ok (Value.int q 0) w
  t28 : P.underlying (ρ.t 28) = some (TypeDesc.func #[ρ.t 33] #[] false)
  a28 : ∀ w, (isAgg (ρ.t 28)).run P w = .ok false w
  z28 : ∀ w, (Go.sizeOf (ρ.t 28)).run P w = .ok 1 w
  v28 : ∀ w, (zeroValue (ρ.t 28)).run P w = .ok (Value.nilFunc) w
  i26 : (P.info? (ρ.t 26)).map (fun i => (i.zero, i.size, i.bytes)) = some (some (.int q 0), 1, 8)

structure LaysQ.n10 (q : IntKind) (P : Program) (ρ : Ren) : Prop where
  mixed : P.follows .mixedOrders = true
  f10 : Bears P (ρ.f 10) (SlBodyZ.n10 ρ)
  t0 : P.underlying (ρ.t 0) = some (TypeDesc.tuple #[])
  a0 : ∀ w, (isAgg (ρ.t 0)).run P w = .ok false w
  z0 : ∀ w, (Go.sizeOf (ρ.t 0)).run P w = .ok 1 w
  v0 : ∀ w, (zeroValue (ρ.t 0)).run P w = .ok (Value.tuple #[]) w
  t4 : P.underlying (ρ.t 4) = some (TypeDesc.bool)
  a4 : ∀ w, (isAgg (ρ.t 4)).run P w = .ok false w
  z4 : ∀ w, (Go.sizeOf (ρ.t 4)).run P w = .ok 1 w
  v4 : ∀ w, (zeroValue (ρ.t 4)).run P w = .ok (Value.bool false) w
  t23 : P.underlying (ρ.t 23) = some (TypeDesc.map (ρ.t 26) (ρ.t 3))
  a23 : ∀ w, (isAgg (ρ.t 23)).run P w = .ok false w
  z23 : ∀ w, (Go.sizeOf (ρ.t 23)).run P w = .ok 1 w
  v23 : ∀ w, (zeroValue (ρ.t 23)).run P w = .ok (Value.map none) w
  t26 : P.underlying (ρ.t 26) = some (TypeDesc.int q)
  a26 : ∀ w, (isAgg (ρ.t 26)).run P w = .ok false w
  z26 : ∀ w, (Go.sizeOf (ρ.t 26)).run P w = .ok 1 w
  v26 : ∀ w, (zeroValue (ρ.t 26)).run P w = .ok (Value.int q 0) w
  t33 : P.underlying (ρ.t 33) = some (TypeDesc.func #[ρ.t 26] #[ρ.t 4] false)
  a33 : ∀ w, (isAgg (ρ.t 33)).run P w = .ok false w
  z33 : ∀ w, (Go.sizeOf (ρ.t 33)).run P w = .ok 1 w
  v33 : ∀ w, (zeroValue (ρ.t 33)).run P w = .ok (Value.nilFunc) w

structure LaysQ.n11 (q : IntKind) (P : Program) (ρ : Ren) : Prop where
  mixed : P.follows .mixedOrders = true
  f11 : Bears P (ρ.f 11) (SlBodyZ.n11 ρ)
  t0 : P.underlying (ρ.t 0) = some (TypeDesc.tuple #[])
  a0 : ∀ w, (isAgg (ρ.t 0)).run P w = .ok false w
  z0 : ∀ w, (Go.sizeOf (ρ.t 0)).run P w = .ok 1 w
  v0 : ∀ w, (zeroValue (ρ.t 0)).run P w = .ok (Value.tuple #[]) w
  t24 : P.underlying (ρ.t 24) = some (TypeDesc.slice (ρ.t 26))
  a24 : ∀ w, (isAgg (ρ.t 24)).run P w = .ok false w
  z24 : ∀ w, (Go.sizeOf (ρ.t 24)).run P w = .ok 1 w
  v24 : ∀ w, (zeroValue (ρ.t 24)).run P w = .ok (Value.slice none 0 0) w
  t26 : P.underlying (ρ.t 26) = some (TypeDesc.int q)
  a26 : ∀ w, (isAgg (ρ.t 26)).run P w = .ok false w
  z26 : ∀ w, (Go.sizeOf (ρ.t 26)).run P w = .ok 1 w
  v26 : ∀ w, (zeroValue (ρ.t 26)).run P w = .ok (Value.int q 0) w
  t28 : P.underlying (ρ.t 28) = some (TypeDesc.func #[ρ.t 33] #[] false)
  a28 : ∀ w, (isAgg (ρ.t 28)).run P w = .ok false w
  z28 : ∀ w, (Go.sizeOf (ρ.t 28)).run P w = .ok 1 w
  v28 : ∀ w, (zeroValue (ρ.t 28)).run P w = .ok (Value.nilFunc) w
  i26 : (P.info? (ρ.t 26)).map (fun i => (i.zero, i.size, i.bytes)) = some (some (.int q 0), 1, 8)

set_option maxRecDepth 100000 in
set_option maxHeartbeats 1000000 in
theorem AnyQ.keys1N_in {q : IntKind} (L : LaysQ.n10 q P ρ) {H : Type} (F : Fence) (n : Nat) (h10 : F.fn (ρ.f 10)) (hro : F.round = none) (hn : 1 ≤ n) (l Bm b nn : Nat) (D0 : DataW H) {R : Value → Option (DataW H × List MemPlace)} (J : List Int → World → Prop)
    (hY : ∀ pre x W, J pre W → pre.length < Maps.size D0 → YieldAt F (n - 1) P l #[(encQ q) x] W fun e W' => e = .returned (.bool true) ∧ J (pre ++ [x]) W' ∧ KeepsWalks W W')
    (W : World) (hJ : AbidesFrom W.heap.size J) (hm : W.cell? ⟨Bm, 0, none⟩ = some (.map (some b))) (hown : W.ownsMap P (ρ.t 26) R b nn D0) (h0 : J [] W) :
    CallsIn F n P (ρ.f 10) #[.func (.yield l) #[] #[], .pointer (some ⟨Bm, 0, none⟩)] W fun e W' => (∃ v, e = .returned v) ∧ ∃ ss : List Int, ss.Perm (intKeys D0) ∧ J ss W' := by
  have mixed := L.mixed; have t0 := L.t0; have a0 := L.a0; have z0 := L.z0; have v0 := L.v0; have t4 := L.t4; have a4 := L.a4; have z4 := L.z4; have v4 := L.v4; have t23 := L.t23; have a23 := L.a23; have z23 := L.z23; have v23 := L.v23; have t26 := L.t26; have a26 := L.a26; have z26 := L.z26; have v26 := L.v26; have t33 := L.t33; have a33 := L.a33; have z33 := L.z33; have v33 := L.v33
  have u0 := run_underlying L.t0; have u4 := run_underlying L.t4; have u23 := run_underlying L.t23; have u26 := run_underlying L.t26; have u33 := run_underlying L.t33
  obtain ⟨_, _, FG⟩ := L.f10
  refine callsIn_of_wp FG rfl h10 ?_ hro
  simp only [SlBodyZ.n10_ntmps ρ, List.size_toArray, List.length_cons, List.length_nil, Nat.reduceAdd, Nat.reduceSub, Array.replicate_succ, Array.replicate_zero, List.push_toArray, List.append_toArray, List.nil_append, List.cons_append]
  gi_wp2_with (first
    | (gi_at_range; refine wpListIn_range_own _ rfl _ (ρ.t 23) rfl (ρ.t 26) (ρ.t 3) (int_keyed L.t26) L.t23 _ b nn _ rfl hown ?_; intro w0 hrg0 hg0 hs0)
    | gi_in)
  go_frame
  gi_loopw [3] (fun _ wr => ∃ (left : Lit → Bool) (cnt : Nat) (ss : List Int), wr.ranges P (ρ.t 26) R b W.heap.size nn D0 left cnt ∧ ss.length + cnt ≤ Maps.size D0 ∧ CollectedQ q D0 left ss ∧ J ss wr)
    (fun _ wr => wr.rangeLeft b W.heap.size)
  case atStart =>
    exact ⟨_, _, [], hrg0, by simp, CollectedQ.start q D0, hJ [] W w0 none h0 hg0 (fun r e => by cases e)⟩
  case round =>
    obtain ⟨left, cnt, ss, hrg, hcs, hC, hJs⟩ := hrel
    gi_wp2_with (first
      | (gi_at_next; refine wpListIn_next_ranges _ rfl _ rfl (ρ.t 26) (int_keyed L.t26) R (encQ q) id (fun key kl hk => by obtain ⟨x, hx, _⟩ := keyOf_q L.t26 hk; exact ⟨x, hx⟩) (fun v _ _ => ⟨v, rfl⟩) b W.heap.size nn _ _ _ rfl hrg ?_ ?_)
      | gi_in)
    · -- NOTHING IS LEFT
      intro hc0 hl0
      gi_wp2
      go_end0
      exact ⟨⟨_, rfl⟩, ss, hC.perm hown (int_keyed L.t26) L.t26 hl0, hJs⟩
    · -- AN ENTRY HAS COME: yield(k)
      intro x c kl yd yp w2 cnt2 hkey hlk hv hat hrg2 hlt hg2 hs2 hen
      obtain ⟨x', ex, rfl, _⟩ := keyOf_q L.t26 hkey
      obtain rfl : x = x' := encQ_inj ex
      have hJ2 : J ss w2 := hJ ss wr w2 (some W.heap.size) hJs hg2 (fun r e => by cases e; exact ⟨Nat.le_refl _, hrg.iter_walk⟩)
      obtain ⟨fn, tmps, assign, body, hy, hR⟩ := hY ss x w2 hJ2 (by omega)
      clear hs2
      gi_wp2
      refine hR.mono ?_
      rintro e W3 ⟨rfl, hJ3, hk3⟩
      gi_wp2
      have hrg3 := hrg2.of_walks hk3
      go_roundw
      case rel => exact ⟨_, cnt2, ss ++ [x], hrg3, by simp; omega, hC.step hlk hat, hJ3⟩
      case measure => rw [hrg3.left_eq, hrg.left_eq]; exact hlt


theorem AnyQ.keys_gives {q : IntKind} (L : LaysQ.n10 q P ρ) {H : Type} (F : Fence) (n : Nat) (h10 : F.fn (ρ.f 10)) (hro : F.round = none) (hn : 1 ≤ n) (Bm b nn : Nat) (D0 : DataW H) {R : Value → Option (DataW H × List MemPlace)} (w : World) (hBm : Bm < w.heap.size)
    (hm : w.cell? ⟨Bm, 0, none⟩ = some (.map (some b))) (hown : w.ownsMap P (ρ.t 26) R b nn D0) :
    SeqGives F n P (ρ.f 10) #[.pointer (some ⟨Bm, 0, none⟩)] (encQ q) (fun ss => ss.Perm (intKeys D0)) (Maps.size D0) w := fun l J W hW hJ hY h0 => by
  have hown' : W.ownsMap P (ρ.t 26) R b nn D0 := by
    have hbl := hown.lt
    obtain ⟨es, clock, hb, Ft, hs, hD⟩ := hown
    exact ⟨es, clock, (hW.block b hbl).trans hb, Ft, hs, hD⟩
  exact AnyQ.keys1N_in { L with } F n h10 hro hn l Bm b nn D0 J hY W hJ ((hW.cell (p := ⟨Bm, 0, none⟩) hBm).trans hm) hown' h0

def AnyQ.apAssign (ρ : Ren) : Code := (Code.region 2 #[{ dst := some 5, op := Op.assign (Operand.tmp 7), type := ρ.t 26, pos := "iter.go:51", after := #[], guard := none }] false)
def AnyQ.apBody (ρ : Ren) : Code := (Code.block 1 (Code.region 3 #[{ dst := some 8, op := Op.load (ρ.t 24) (Operand.tmp 2), type := ρ.t 24, pos := "iter.go:52", after := #[], guard := none }, { dst := some 9, op := Op.move (Operand.tmp 5), type := ρ.t 26, pos := "iter.go:52", after := #[], guard := none }, { dst := some 10, op := Op.buildSlice (ρ.t 24) 1 #[(0, Operand.tmp 9)], type := ρ.t 24, pos := "iter.go:52", after := #[{ on := 1, ground := Ground.data }], guard := none }, { dst := some 11, op := Op.call { callee := Callee.builtin Builtin.append, args := #[Operand.tmp 8, Operand.tmp 10], argTypes := #[ρ.t 24, ρ.t 24] }, type := ρ.t 24, pos := "iter.go:52", after := #[{ on := 0, ground := Ground.data }, { on := 2, ground := Ground.data }], guard := none }, { dst := none, op := Op.store (ρ.t 24) (Operand.tmp 2) (Operand.tmp 11), type := ρ.t 0, pos := "iter.go:52", after := #[{ on := 3, ground := Ground.data }, { on := 3, ground := Ground.chain }, { on := 0, ground := Ground.phase }, { on := 1, ground := Ground.phase }, { on := 2, ground := Ground.phase }, { on := 3, ground := Ground.phase }], guard := none }] false))
def AnyQ.apRec (ρ : Ren) (fn : FuncId) (sv : Value) (Bs D : Nat) (st : LoopState) (pend : Option Code) : Loop :=
  { state := st, pending := pend, fn, tmps := #[.slice none 0 0, sv, .pointer (some ⟨Bs, 0, none⟩), undef, .slice none 0 0, undef, sv, undef, undef, undef, undef, undef, undef], params := #[7], assign := AnyQ.apAssign ρ, body := AnyQ.apBody ρ, defers := D }

structure AnyQ.ApAt (q : IntKind) (ρ : Ren) (w0 : World) (fn : FuncId) (sv : Value) (Bs l D : Nat) (ss : List Int) (W : World) : Prop where
  box : ∃ v, W.heap[Bs]? = some (.cells #[v] (ρ.t 24) (0, 0)) ∧ W.ownsRow w0.heap.size (ρ.t 26) 1 v ss.length (ss.map (encQ q)) ∧ (v = .slice none 0 0 ↔ ss = [])
  L : W.heap[l]? = some (.loop (AnyQ.apRec ρ fn sv Bs D .ready none))
  K : W.heap[D]? = some (.deferred (some []))
  below : Below w0.heap.size w0 W

theorem AnyQ.ap_abides (q : IntKind) (ρ : Ren) (w0 : World) (fn : FuncId) (sv : Value) (Bs l D B : Nat) (hB : w0.heap.size ≤ B) : AbidesFrom B (AnyQ.ApAt q ρ w0 fn sv Bs l D) := fun s W W' row h hg hrow => by
  have hrow' : ∀ r, row = some r → ∃ o : Obj, W.heap[r]? = some o ∧ o.isWalk = true := fun r e => (hrow r e).2
  obtain ⟨v, hv, hr, hn⟩ := h.box
  exact ⟨⟨v, (grownBy_keeps hg hrow' hv rfl).trans hv, ownsRow_abides_a hr hg hrow', hn⟩, (grownBy_keeps hg hrow' h.L rfl).trans h.L, (grownBy_keeps hg hrow' h.K rfl).trans h.K,
    h.below.grown hg h.below.size (fun k e => Nat.le_trans hB (hrow k e).1)⟩

set_option maxRecDepth 100000 in
set_option maxHeartbeats 2000000 in
theorem AnyQ.apYield {q : IntKind} (L : LaysQ.n11 q P ρ) (F : Fence) (m : Nat) (w0 : World) (fn : FuncId) (hfn : F.fn fn) (sv : Value) (Bs l D : Nat) (hBl : Bs ≠ l) (hDl : D ≠ l) (hDB : D ≠ Bs) (h0B : w0.heap.size ≤ Bs) (h0l : w0.heap.size ≤ l)
    (N : Nat) (hN : N ≤ maxLen) (hNb : N * 8 ≤ 140737488355328) (ss : List Int) (x : Int) (W : World) (h : AnyQ.ApAt q ρ w0 fn sv Bs l D ss W) (hlen : ss.length < N) :
    YieldAt F m P l #[(encQ q) x] W fun e W' => e = .returned (.bool true) ∧ AnyQ.ApAt q ρ w0 fn sv Bs l D (ss ++ [x]) W' ∧ KeepsWalks W W' := by
  have mixed := L.mixed; have t0 := L.t0; have a0 := L.a0; have z0 := L.z0; have v0 := L.v0; have t24 := L.t24; have a24 := L.a24; have z24 := L.z24; have v24 := L.v24; have t26 := L.t26; have a26 := L.a26; have z26 := L.z26; have v26 := L.v26; have t28 := L.t28; have a28 := L.a28; have z28 := L.z28; have v28 := L.v28
  have hne : ρ.t 24 ≠ ρ.t 26 := fun e => by have h := L.t24; rw [e, L.t26] at h; cases h
  have u0 := run_underlying L.t0; have u24 := run_underlying L.t24; have u26 := run_underlying L.t26; have u28 := run_underlying L.t28
  obtain ⟨i0, hi, hz0, hz1, hz2⟩ := info_parts L.i26
  obtain ⟨v, hv, hrow, _⟩ := h.box
  refine ⟨fn, #[.slice none 0 0, sv, .pointer (some ⟨Bs, 0, none⟩), undef, .slice none 0 0, undef, sv, (encQ q) x, undef, undef, undef, undef, undef], AnyQ.apAssign ρ, AnyQ.apBody ρ, by simpa [AnyQ.apRec] using run_yield (P := P) (args := #[(encQ q) x]) h.L rfl, roundIn_of_wpIn hfn ?_⟩
  have hl : l < W.heap.size := (Array.getElem?_eq_some_iff.1 h.L).1
  have hbr := run_beginRound (P := P) h.L rfl
  obtain ⟨W2, hW2⟩ : ∃ W2, W.putObj l (.loop { AnyQ.apRec ρ fn sv Bs D .ready none with state := .busy }) = W2 := ⟨_, rfl⟩
  rw [hW2] at hbr
  have hg2 : W.grownBy W2 (some l) := by rw [← hW2]; exact grownBy_putObj_a _ _ _
  have hk2 : KeepsWalks W W2 := by rw [← hW2]; exact KeepsWalks.putObj _ h.L rfl
  have hv2 : W2.heap[Bs]? = some (.cells #[v] (ρ.t 24) (0, 0)) := by rw [← hW2]; exact (World.putObj_heap_other hBl).trans hv
  have hK2 : W2.heap[D]? = some (.deferred (some [])) := by rw [← hW2]; exact (World.putObj_heap_other hDl).trans h.K
  have hL2 : W2.heap[l]? = some (.loop { AnyQ.apRec ρ fn sv Bs D .ready none with state := .busy }) := by rw [← hW2]; exact World.putObj_heap_same hl
  have hrow2 : W2.ownsRow w0.heap.size (ρ.t 26) 1 v ss.length (ss.map (encQ q)) := hrow.kept hg2 (ownsRow_ne_a hrow h.L (fun cur e => by first | cases e | exact hne (Obj.cells.inj e).2.1))
  have hb2 : Below w0.heap.size w0 W2 := h.below.grown hg2 h.below.size (fun k e => by cases e; exact h0l)
  obtain ⟨hc2, hf2⟩ := cell_of_box_a hv2
  have hBlt : Bs < W2.heap.size := (Array.getElem?_eq_some_iff.1 hv2).1
  have hl2 : l < W2.heap.size := (Array.getElem?_eq_some_iff.1 hL2).1
  have hDlt : D < W2.heap.size := (Array.getElem?_eq_some_iff.1 hK2).1
  have ne_of : ∀ {j : Nat} {o : Obj}, W2.heap[j]? = some o → (∀ cur, o ≠ .cells cur (ρ.t 26) (0, 0)) → some j ≠ v.ownBlock := fun hj hno => by
    rcases ownsRow_ne_a hrow2 hj hno with e | e
    · rw [e]; simp
    · exact fun e' => e e'.symm
  clear hW2
  unfold AnyQ.apAssign
  gi_wp2_with gi_round_op_a
  unfold AnyQ.apBody
  gi_wp2_with (first
    | (gi_at_builtin; refine wpListIn_append_own _ rfl _ _ (ρ.t 24) rfl w0.heap.size (ρ.t 26) i0 (.int q 0) 1 8 L.t24 hi hz0 hz1 hz2 rfl (by decide) _ _ _ rfl (hrow2.alloc _) ⟨W2.heap.size, 0, none⟩ 1 1 [(encQ q) x] rfl rfl (cell_one_new _ _ _) (by simp [Value.oneCell', encQ]) (by omega) (by omega) (by have := hb2.size; simp; omega) ?_; intro v' w3 hown' hg3 hnil3
       have hv3 : w3.heap[Bs]? = some (.cells #[v] (ρ.t 24) (0, 0)) := (hg3.block Bs (by simp; omega) (ne_of hv2 (fun cur e => by first | cases e | exact hne (Obj.cells.inj e).2.1))).trans ((Below.heap_alloc _ _ Bs hBlt).trans hv2)
       obtain ⟨hc3, hf3⟩ := cell_of_box_a hv3
       obtain ⟨g', cap', cur', rfl, hbase', hgb', hr1, hr2, hr3, hr4⟩ : ∃ g' cap' cur', v' = .slice (some ⟨g', 0, none⟩) (ss.length + 1) cap' ∧ w0.heap.size ≤ g' ∧ w3.heap[g']? = some (.cells cur' (ρ.t 26) (0, 0)) ∧ ss.length + 1 ≤ cap' ∧ cap' ≤ maxLen ∧ cur'.size = cap' * 1 ∧ cur'.toList.take ((ss.length + 1) * 1) = ss.map (encQ q) ++ [(encQ q) x] := by
         rcases hown'.2 with ⟨_, h0⟩ | h'
         · exact absurd h0 (by omega)
         · exact h'
       go_frame)
    | gi_round_op_a)
  have hg3' : (W2.alloc (.cells #[(encQ q) x] (ρ.t 26))).grownBy w3 v.ownBlock := hg3
  have hL3 : w3.heap[l]? = some (.loop { AnyQ.apRec ρ fn sv Bs D .ready none with state := .busy }) := (hg3'.block l (by simp; omega) (ne_of hL2 (fun cur e => by first | cases e | exact hne (Obj.cells.inj e).2.1))).trans ((Below.heap_alloc _ _ l hl2).trans hL2)
  have hK3 : w3.heap[D]? = some (.deferred (some [])) := (hg3'.block D (by simp; omega) (ne_of hK2 (fun cur e => by first | cases e | exact hne (Obj.cells.inj e).2.1))).trans ((Below.heap_alloc _ _ D hDlt).trans hK2)
  obtain ⟨w4, hw4⟩ : ∃ w4, w3.setCell ⟨Bs, 0, none⟩ (.slice (some ⟨g', 0, none⟩) (ss.length + 1) cap') = w4 := ⟨_, rfl⟩
  rw [hw4]
  have hg4 : w3.grownBy w4 (some Bs) := by rw [← hw4]; exact grownBy_setCell0_a _ _ _
  have hv4 : w4.heap[Bs]? = some (.cells #[.slice (some ⟨g', 0, none⟩) (ss.length + 1) cap'] (ρ.t 24) (0, 0)) := by rw [← hw4]; exact heap_setCell_box_a _ hv3
  have hL4 : w4.heap[l]? = some (.loop { AnyQ.apRec ρ fn sv Bs D .ready none with state := .busy }) := (hg4.block l (Array.getElem?_eq_some_iff.1 hL3).1 (fun e => hBl (by cases e; rfl))).trans hL3
  have hK4 : w4.heap[D]? = some (.deferred (some [])) := (hg4.block D (Array.getElem?_eq_some_iff.1 hK3).1 (fun e => hDB (by cases e; rfl))).trans hK3
  have hrow4 := hown'.kept hg4 (ownsRow_ne_a hown' hv3 (fun cur e => by first | cases e | exact hne (Obj.cells.inj e).2.1))
  have hl4 : l < w4.heap.size := (Array.getElem?_eq_some_iff.1 hL4).1
  have hb3 : Below w0.heap.size w0 w3 := (hb2.alloc hb2.size _).grown hg3' (by have := hb2.size; simp; omega) (fun k e => (hrow2.lt k e).1)
  have hb4 : Below w0.heap.size w0 w4 := hb3.grown hg4 hb3.size (fun k e => by cases e; exact h0B)
  have hk4 : KeepsWalks W w4 := ((hk2.trans (KeepsWalks.alloc _ _)).trans (KeepsWalks.of_grownBy hg3' (ownsRow_not_walk_a (hrow2.alloc _)))).trans (by rw [← hw4]; exact KeepsWalks.setCell _ _ _)
  clear hw4
  refine ⟨_, _, run_endRound none hL4, rfl, ⟨⟨_, (World.putObj_heap_other hBl).trans hv4, ?_, by simp⟩, World.putObj_heap_same hl4, (World.putObj_heap_other hDl).trans hK4, hb4.grown (grownBy_putObj_a _ _ _) hb4.size (fun k e => by cases e; exact h0l)⟩, hk4.trans (KeepsWalks.putObj _ hL4 rfl)⟩
  have := hrow4.kept (grownBy_putObj_a w4 l (.loop { { AnyQ.apRec ρ fn sv Bs D .ready none with state := .busy } with state := if (none : Option Code).isNone then .ready else .done, pending := none })) (ownsRow_ne_a hrow4 hL4 (fun cur e => by first | cases e | exact hne (Obj.cells.inj e).2.1))
  simpa using this


set_option maxRecDepth 100000 in
set_option maxHeartbeats 2000000 in
theorem AnyQ.appendSeq_in {q : IntKind} (L : LaysQ.n11 q P ρ) (F : Fence) (n : Nat) (h11 : F.fn (ρ.f 11)) (hro : F.round = none) (hn : 2 ≤ n) (g : Nat) (lb : Array Value) (hFg : F.fn g) (eg : ∀ args w, (callFunc g args).run P w = .ok (.enter g args) w)
    (S : List Int → Prop) (N : Nat) (hN : N ≤ maxLen) (hNb : N * 8 ≤ 140737488355328) (w : World) (hseq : SeqGives F (n - 1) P g lb (encQ q) S N w) :
    CallsIn F n P (ρ.f 11) #[.slice none 0 0, .func (.func g) #[] lb] w fun e w' => ∃ (v : Value) (ss : List Int), e = .returned v ∧ S ss ∧ w'.ownsRow w.heap.size (ρ.t 26) 1 v ss.length (ss.map (encQ q)) ∧ (v = .slice none 0 0 ↔ ss = []) ∧ Below w.heap.size w w' := by
  have h1 : 1 ≤ n := by omega
  have mixed := L.mixed; have t0 := L.t0; have a0 := L.a0; have z0 := L.z0; have v0 := L.v0; have t24 := L.t24; have a24 := L.a24; have z24 := L.z24; have v24 := L.v24; have t26 := L.t26; have a26 := L.a26; have z26 := L.z26; have v26 := L.v26; have t28 := L.t28; have a28 := L.a28; have z28 := L.z28; have v28 := L.v28
  have hne : ρ.t 24 ≠ ρ.t 26 := fun e => by have h := L.t24; rw [e, L.t26] at h; cases h
  have u0 := run_underlying L.t0; have u24 := run_underlying L.t24; have u26 := run_underlying L.t26; have u28 := run_underlying L.t28
  obtain ⟨_, _, FG⟩ := L.f11
  refine callsIn_of_wp_marks FG rfl h11 ?_ hro
  simp only [SlBodyZ.n11_ntmps ρ, List.size_toArray, List.length_cons, List.length_nil, Nat.reduceAdd, Nat.reduceSub, Array.replicate_succ, Array.replicate_zero, List.push_toArray, List.append_toArray, List.nil_append, List.cons_append]
  gi_wp2
  refine wpIn_rangeFunc ?_
  intro fn hfn
  rw [hro]
  obtain ⟨W0, hW0⟩ : ∃ W0, w.alloc (.cells #[.slice none 0 0] (ρ.t 24)) = W0 := ⟨_, rfl⟩
  have hs0 : W0.heap.size = w.heap.size + 1 := by rw [← hW0]; simp
  have hv0 : W0.heap[w.heap.size]? = some (.cells #[.slice none 0 0] (ρ.t 24) (0, 0)) := by rw [← hW0]; exact World.alloc_heap_new w _
  have hb0 : Below w.heap.size w W0 := by rw [← hW0]; exact (Below.refl _ w).alloc (Nat.le_refl _) _
  rw [hW0]
  obtain ⟨W1, hW1⟩ : ∃ W1, (W0.alloc (.deferred (some []))).alloc (.loop (AnyQ.apRec ρ fn (.func (.func g) #[] lb) w.heap.size W0.heap.size .ready none)) = W1 := ⟨_, rfl⟩
  have hold : ∀ k, k < W0.heap.size → W1.heap[k]? = W0.heap[k]? := fun k hk => by
    rw [← hW1]; exact (Below.heap_alloc _ _ k (by simp; omega)).trans (Below.heap_alloc _ _ k hk)
  have hb1 : Below w.heap.size w W1 := by rw [← hW1]; exact (hb0.alloc hb0.size _).alloc (by have := hb0.size; simp; omega) _
  have hs1 : W1.heap.size = W0.heap.size + 2 := by rw [← hW1]; simp
  have hM : AnyQ.ApAt q ρ w fn (.func (.func g) #[] lb) w.heap.size (W0.heap.size + 1) W0.heap.size [] W1 :=
    ⟨⟨_, (hold w.heap.size (by omega)).trans hv0, ⟨rfl, .inl ⟨rfl, rfl⟩⟩, by simp⟩,
     by rw [← hW1]; have := World.alloc_heap_new (W0.alloc (.deferred (some []))) (.loop (AnyQ.apRec ρ fn (.func (.func g) #[] lb) w.heap.size W0.heap.size .ready none)); rwa [World.size_alloc] at this,
     by rw [← hW1]; exact (Below.heap_alloc _ _ _ (by simp)).trans (World.alloc_heap_new W0 _), hb1⟩
  refine ⟨W0.heap.size + 1, [{ target := .collected W0.heap.size, args := #[] }], W1, { target := .fn (.func g) lb, args := #[.func (.yield (W0.heap.size + 1)) #[] #[]] }, W1, g,
    #[.func (.yield (W0.heap.size + 1)) #[] #[]] ++ lb, W1, ?_, ?_, ?_, ?_, fun _ => h1, ?_⟩
  · rw [← hW1]; exact run_enterLoop_outer _ _ _ _ _
  · simp [resolve, go_sem]
  · intro f' hf'; simp [Target.leads] at hf'; subst hf'; exact hFg
  · simp [invoke, go_sem, eg]
  · refine (hseq (W0.heap.size + 1) (AnyQ.ApAt q ρ w fn (.func (.func g) #[] lb) w.heap.size (W0.heap.size + 1) W0.heap.size) W1 hb1 (AnyQ.ap_abides q ρ _ _ _ _ _ _ _ hb1.size)
      (fun pre x W hJ hl => AnyQ.apYield { L with } F (n - 1 - 1) w fn hfn _ w.heap.size (W0.heap.size + 1) W0.heap.size (by omega) (by omega) (by omega) (Nat.le_refl _) (by omega) N hN hNb pre x W hJ hl) hM).mono ?_
    rintro e W2 ⟨⟨v0, rfl⟩, ss, hS, h2⟩
    obtain ⟨v, hv, hrow, hnil⟩ := h2.box
    have hend := run_endLoop (P := P) h2.L (by simp [AnyQ.apRec])
    obtain ⟨W3, hW3⟩ : ∃ W3, W2.putObj (W0.heap.size + 1) (.loop { AnyQ.apRec ρ fn (.func (.func g) #[] lb) w.heap.size W0.heap.size .ready none with state := .exhausted }) = W3 := ⟨_, rfl⟩
    rw [hW3] at hend
    have hg3 : W2.grownBy W3 (some (W0.heap.size + 1)) := by rw [← hW3]; exact grownBy_putObj_a _ _ _
    have hv3 : W3.heap[w.heap.size]? = some (.cells #[v] (ρ.t 24) (0, 0)) := by rw [← hW3]; exact (World.putObj_heap_other (by omega)).trans hv
    have hK3 : W3.heap[W0.heap.size]? = some (.deferred (some [])) := by rw [← hW3]; exact (World.putObj_heap_other (by omega)).trans h2.K
    have hrow3 := hrow.kept hg3 (ownsRow_ne_a hrow h2.L (fun cur e => by first | cases e | exact hne (Obj.cells.inj e).2.1))
    have hb3 : Below w.heap.size w W3 := h2.below.grown hg3 h2.below.size (fun k e => by cases e; omega)
    obtain ⟨hc3, hf3⟩ := cell_of_box_a hv3
    clear hW3
    refine ⟨none, W3, hend, ?_⟩
    gi_wp2
    rw [← hs0]
    refine ⟨by simp, .inl ⟨_, _, rfl, run_takeDeferred hK3, ?_⟩⟩
    exact ⟨_, results_tmp rfl _ _ _, v, ss, rfl, hS, hrow3.kept (grownBy_putObj_a _ _ _) (ownsRow_ne_a hrow3 hK3 (fun cur e => by first | cases e | exact hne (Obj.cells.inj e).2.1)), hnil, hb3.grown (grownBy_putObj_a _ _ _) hb3.size (fun k e => by cases e; omega)⟩


set_option maxHeartbeats 1000000 in
theorem AnyQ.collect_in {q : IntKind} (L : LaysQ.n8 q P ρ) (F : Fence) (n : Nat) (h8 : F.fn (ρ.f 8)) (h11 : F.fn (ρ.f 11)) (hro : F.round = none) (hn : 3 ≤ n) (g : Nat) (lb : Array Value) (hFg : F.fn g) (eg : ∀ args w, (callFunc g args).run P w = .ok (.enter g args) w)
    (S : List Int → Prop) (N : Nat) (hN : N ≤ maxLen) (hNb : N * 8 ≤ 140737488355328) (w : World) (hseq : SeqGives F (n - 1 - 1) P g lb (encQ q) S N w) :
    CallsIn F n P (ρ.f 8) #[.func (.func g) #[] lb] w fun e w' => ∃ (v : Value) (ss : List Int), e = .returned v ∧ S ss ∧ w'.ownsRow w.heap.size (ρ.t 26) 1 v ss.length (ss.map (encQ q)) ∧ (v = .slice none 0 0 ↔ ss = []) ∧ Below w.heap.size w w' := by
  have h1 : 1 ≤ n := by omega
  have e11 : ∀ args w, (callFunc (ρ.f 11) args).run P w = .ok (.enter (ρ.f 11) args) w := L.f11.enters rfl
  have mixed := L.mixed; have t0 := L.t0; have a0 := L.a0; have z0 := L.z0; have v0 := L.v0; have t24 := L.t24; have a24 := L.a24; have z24 := L.z24; have v24 := L.v24; have t26 := L.t26; have a26 := L.a26; have z26 := L.z26; have v26 := L.v26; have t28 := L.t28; have a28 := L.a28; have z28 := L.z28; have v28 := L.v28
  have u0 := run_underlying L.t0; have u24 := run_underlying L.t24; have u26 := run_underlying L.t26; have u28 := run_underlying L.t28
  obtain ⟨_, _, FG⟩ := L.f8
  refine callsIn_of_wp FG rfl h8 ?_ hro
  simp only [SlBodyZ.n8_ntmps ρ, List.size_toArray, List.length_cons, List.length_nil, Nat.reduceAdd, Nat.reduceSub, Array.replicate_succ, Array.replicate_zero, List.push_toArray, List.append_toArray, List.nil_append, List.cons_append]
  gi_wp2_with (gi_at_fn (ρ.f 11); refine (AnyQ.appendSeq_in { L with } F (n - 1) h11 hro (by omega) g lb hFg eg S N hN hNb _ hseq).mono ?_; rintro e w' ⟨v, ss, rfl, hS, hrow, hnil, hb⟩)
  go_ret
  exact ⟨v, ss, rfl, hS, hrow, hnil, hb⟩

end Go.Eng

namespace Go.Eng
open Go.RowKit Go.Maps Go.Proofs Go.Shelf Go.WideElems Go.ChangeShapes Go.WideShapes Go.MapKept

variable {P : Program} {K : Fix} {E F : Env} {S S' : St} {X : List (List Value)} {w w' : World} {a b v : AVal} {x y : Value} {t s : TypeId} {l r : List AVal} {xs : List Value} {i j n off f : Nat}

/-! ### what has grown without touching what was there -/

theorem Ok.later (h : Ok K E S X w) (hb : Below w.heap.size w w') : Ok K E S X w' where
  dom := h.dom
  obj := by
    intro b o ho
    obtain ⟨c, x, h1, h2, h3, h4⟩ := h.obj b o ho
    exact ⟨c, x, h1, h2, (hb.block c (Array.getElem?_eq_some_iff.1 h3).1).trans h3, h4⟩
  inj := h.inj
  kdom := h.kdom
  lb := h.lb
  below := h.below.trans (hb.mono h.base)
  base := Nat.le_trans h.base hb.size
  stk := h.stk
  x := h.x.move rfl rfl rfl rfl (fun b _ hb => .inl ⟨b, hb⟩) hb.size fun c hc _ => hb.block c hc

/-- A block that has come is taken up. -/
theorem Ok.adopt {o : AObj} {u : Obj} {c : Nat} (h : Ok K E S X w) (hn : ∀ b, E.rho b ≠ some c) (hc : K.n0 ≤ c) (hu : w.heap[c]? = some u) (ho : OR E o u) (hf : FreeX E S.x c) :
    ∃ E', E.Le E' ∧ E'.rho S.heap.length = some c ∧ Ok K E' { S with heap := S.heap ++ [o] } X w := by
  have hnone : E.rho S.heap.length = none := by
    cases hr : E.rho S.heap.length with
    | none => rfl
    | some c => have := h.dom S.heap.length (by simp [hr]); omega
  have hle : E.Le { E with rho := fun b => if b = S.heap.length then some c else E.rho b } := by
    refine ⟨fun b c hb => ?_, fun _ _ hk => hk, fun _ _ hk => hk, rfl⟩
    have : b ≠ S.heap.length := by rintro rfl; rw [hnone] at hb; cases hb
    simpa [this] using hb
  refine ⟨_, hle, by simp, ?_⟩
  constructor
  · intro b hb
    simp only [List.length_append, List.length_singleton]
    simp only at hb
    split at hb
    · omega
    · have := h.dom b hb; omega
  · intro b o' hb
    by_cases hbl : b = S.heap.length
    · subst hbl
      simp at hb; subst hb
      exact ⟨c, u, by simp, hc, hu, OR.mono hle _ _ ho⟩
    · have hb' : S.heap[b]? = some o' := by
        rw [List.getElem?_append] at hb
        split at hb
        · exact hb
        · rename_i hlt
          have : b - S.heap.length = (b - S.heap.length - 1) + 1 := by omega
          rw [this] at hb; simp at hb
      obtain ⟨c', x, h1, h2, h3, h4⟩ := h.obj b o' hb'
      exact ⟨c', x, by simp [hbl, h1], h2, h3, OR.mono hle _ _ h4⟩
  · intro b b' d hb hb'
    simp only at hb hb'
    split at hb
    · rename_i e1
      simp only [Option.some.injEq] at hb; subst hb
      split at hb'
      · rename_i e2; rw [e1, e2]
      · exact absurd hb' (hn b')
    · split at hb'
      · simp only [Option.some.injEq] at hb'; subst hb'
        exact absurd hb (hn b)
      · exact h.inj b b' d hb hb'
  · exact h.kdom
  · exact h.lb
  · exact h.below
  · exact h.base
  · exact SR.mono hle _ _ h.stk
  · refine h.x.move rfl rfl rfl rfl (fun b d hb => ?_) (Nat.le_refl _) fun _ _ _ => rfl
    simp only at hb
    split at hb
    · obtain rfl := Option.some.inj hb
      exact .inr hf
    · exact .inl ⟨b, hb⟩

/-! ### every order -/

def insAll (x : Int) : List Int → List (List Int)
  | [] => [[x]]
  | y :: l => (x :: y :: l) :: (insAll x l).map (y :: ·)

theorem mem_insAll (x : Int) : ∀ (a b : List Int), (a ++ x :: b) ∈ insAll x (a ++ b)
  | [], [] => by simp [insAll]
  | [], y :: b => by simp [insAll]
  | y :: a, b => by simp only [List.cons_append, insAll]; exact List.mem_cons_of_mem _ (List.mem_map.2 ⟨_, mem_insAll x a b, rfl⟩)

def orders : List Int → List (List Int)
  | [] => [[]]
  | x :: l => (orders l).flatMap (insAll x)

theorem mem_orders : ∀ {l ss : List Int}, ss.Perm l → ss ∈ orders l
  | [], ss, h => by simp [orders, h.eq_nil]
  | x :: l, ss, h => by
    have hx : x ∈ ss := h.mem_iff.2 (List.mem_cons_self ..)
    obtain ⟨a, b, rfl⟩ := List.append_of_mem hx
    have h2 : (a ++ b).Perm l := (List.perm_middle.symm.trans h).cons_inv
    exact List.mem_flatMap.2 ⟨_, mem_orders h2, mem_insAll x a b⟩

/-! ### the keys of a map -/

def keysQ (q : IntKind) : List AEnt → Option (List Int)
  | [] => some []
  | e :: l => match e.key with
    | .lit (.int q' x) => if q' = q ∧ (Lit.int q x).wf = true then (keysQ q l).map (x :: ·) else none
    | _ => none

theorem keysQ_sound {q : IntKind} : ∀ {es : List AEnt} {ks : List Int} {xs : List MapEntry}, keysQ q es = some ks → ER E es xs →
    xs.map (·.key) = ks.map (Value.int q) ∧ xs.map (·.born) = es.map (·.born) ∧ ∀ x ∈ ks, (Lit.int q x).wf = true
  | [], ks, xs, hk, h => by
    simp only [keysQ, Option.some.injEq] at hk; subst hk
    simp only [ER] at h; subst h; simp
  | e :: es, ks, xs, hk, h => by
    simp only [keysQ] at hk
    simp only [ER] at h
    obtain ⟨x, r, h1, h2, h3, h4, rfl⟩ := h
    split at hk
    · rename_i q' z hz
      split at hk
      · rename_i hq
        obtain ⟨rfl, hw⟩ := hq
        simp only [Option.map_eq_some_iff] at hk
        obtain ⟨ks', hk', rfl⟩ := hk
        obtain ⟨g1, g2, g3⟩ := keysQ_sound hk' h4
        rw [hz] at h1; simp only [VR] at h1
        refine ⟨by simp [g1, h1], by simp [g2, h3], ?_⟩
        intro u hu
        rcases List.mem_cons.1 hu with rfl | hu
        · exact hw
        · exact g3 u hu
      · simp at hk
    · simp at hk

structure SeqEnt where
  f : FuncId
  g : FuncId
  q : IntKind
  kt : TypeId

/-- 'slices.AppendSeq(nil, maps.Keys(m))' stands at these numbers. -/
structure SeqAt (P : Program) (e : SeqEnt) : Prop where
  ex : ∃ ρ1 ρ2 : Go.Shelf.Ren, LaysQ.n10 e.q P ρ1 ∧ LaysQ.n11 e.q P ρ2 ∧ ρ2.f 11 = e.f ∧ ρ1.f 10 = e.g ∧ ρ2.t 26 = e.kt

def seqRun (S : St) (e : SeqEnt) : List AVal → Option (List (AVal × St))
  | [.lit (.slice none 0 0), .func (.func g) [] [.ptr bx 0]] =>
    if g = e.g then
      match cellAt S bx 0 with
      | some (.map m) => match S.heap[m]? with
        | some (.map es clock) => match keysQ e.q es with
          | some ks =>
            if es.length ≤ 1000 ∧ (∀ x ∈ es, x.born < clock) ∧ (es.map (·.born)).Nodup ∧ ks.Nodup then
              some ((orders ks).map fun p => match p with
                | [] => (.lit (.slice none 0 0), S)
                | p => (.slice S.heap.length 0 p.length 0 (some S.caps.length), { S with caps := S.caps ++ [p.length], heap := S.heap ++ [.cells (p.map fun x => .lit (.int e.q x)) e.kt (0, 0) (some (S.caps.length, 1))] }))
            else none
          | none => none
        | _ => none
      | _ => none
    else none
  | _ => none

theorem seqRun_sound {e : SeqEnt} (he : SeqAt P e) {args : List AVal} {outs : List (AVal × St)} (hv : seqRun S e args = some outs) (h : Ok K E S X w) (hx : VRs E args xs) :
    Calls P e.f xs.toArray w fun en w' => ∃ v S' y E', (v, S') ∈ outs ∧ en = .returned y ∧ VR E' v y ∧ Ok K E' S' X w' := by
  unfold seqRun at hv
  split at hv
  · rename_i g bx
    split at hv
    · rename_i hg; subst hg
      split at hv
      · rename_i m hcell
        split at hv
        · rename_i es clock hm
          split at hv
          · rename_i ks hks
            split at hv
            · rename_i hcond
              obtain ⟨hlen, hborn, hbn, hkn⟩ := hcond
              simp only [Option.some.injEq] at hv
              obtain ⟨p, q, rfl, hp, hq⟩ := hx.pair
              simp only [VR] at hp; subst hp
              simp only [VR] at hq; obtain ⟨fs, gs, hfs, hgs, rfl⟩ := hq
              simp only [VRs] at hfs; subst hfs
              obtain ⟨pv, rfl, hpv⟩ := hgs.one
              simp only [VR] at hpv; obtain ⟨c, hc, rfl⟩ := hpv
              obtain ⟨mv, hmv, hmr⟩ := cellAt_sound h hc hcell
              simp only [VR] at hmr; obtain ⟨mc, hmc, rfl⟩ := hmr
              obtain ⟨mc', mo, h1, h2, h3, h4⟩ := h.obj _ _ hm
              rw [hmc] at h1; obtain rfl := Option.some.inj h1
              obtain ⟨xs2, hER, rfl⟩ := h4
              obtain ⟨g1, g2, g3⟩ := keysQ_sound hks hER
              obtain ⟨ρ1, ρ2, L10, L11, e1, e2, e3⟩ := he.ex
              have hkt : P.underlying (ρ1.t 26) = some (.int e.q) := L10.t26
              have hlx : xs2.length = es.length := by have := congrArg List.length g2; simpa using this
              have hlk : ks.length = es.length := by have := congrArg List.length g1; simp at this; omega
              let R : Value → Option (DataW Unit × List MemPlace) := fun _ => some (.lit (.bool true), [])
              have hkey : ∀ x ∈ xs2, ∃ z, x.key = .int e.q z ∧ (Lit.int e.q z).wf = true := by
                intro x hxm
                have : x.key ∈ ks.map (Value.int e.q) := by rw [← g1]; exact List.mem_map.2 ⟨x, hxm, rfl⟩
                obtain ⟨z, hz, hz2⟩ := List.mem_map.1 this
                exact ⟨z, hz2.symm, g3 z hz⟩
              have hrd : ∀ x ∈ xs2, ∃ z, x.key = .int e.q z ∧ rd P (ρ1.t 26) R x = some (.int e.q z, .lit (.bool true)) := by
                intro x hxm
                obtain ⟨z, hz, hz2⟩ := hkey x hxm
                refine ⟨z, hz, ?_⟩
                simp only [rd, hz, keyOf_int_mk hkt hz2, R, Option.map_some, Option.bind_some]
              have hfit : Fit P (ρ1.t 26) R xs2.toArray clock := by
                refine ⟨by simp [maxLen]; omega, ⟨?_, ?_, ?_⟩, ?_⟩
                · intro x hxm
                  simp only at hxm
                  have : x.born ∈ es.map (·.born) := by rw [← g2]; exact List.mem_map.2 ⟨x, hxm, rfl⟩
                  obtain ⟨z, hz, hz2⟩ := List.mem_map.1 this
                  rw [← hz2]; exact hborn z hz
                · simp only [g2]; exact hbn
                · simp only [g1]
                  exact List.pairwise_map.2 (hkn.imp fun hne e => hne (by simpa using e))
                · intro x hxm
                  obtain ⟨z, hz, hr⟩ := hrd x (by simpa using hxm)
                  exact ⟨_, hr⟩
              let D0 : DataW Unit := .map ((xs2.map (rg P (ρ1.t 26) R)).foldr DataW.insert [])
              have hown : w.ownsMap P (ρ1.t 26) R mc es.length D0 := ⟨xs2.toArray, clock, h3, hfit, by simp [hlx], rfl⟩
              have hsz : Maps.size D0 = es.length := by
                have := (sorted_perm (xs2.map (rg P (ρ1.t 26) R))).length_eq
                simp only [Maps.size, D0, this, List.length_map, hlx]
              have hik : (intKeys D0).Perm ks := by
                have hp := (sorted_perm (xs2.map (rg P (ρ1.t 26) R))).map (fun p => intOf p.1)
                refine hp.trans (List.Perm.of_eq ?_)
                have hmap : ∀ (l : List MapEntry), (∀ x ∈ l, x ∈ xs2) → ∀ k2, l.map (·.key) = k2.map (Value.int e.q) → (l.map (rg P (ρ1.t 26) R)).map (fun p => intOf p.1) = k2 := by
                  intro l
                  induction l with
                  | nil => intro _ k2 hk2; cases k2 with
                    | nil => rfl
                    | cons => simp at hk2
                  | cons x l ih => 
                    intro hsub k2 hk2
                    cases k2 with
                    | nil => simp at hk2
                    | cons z k2 =>
                      simp only [List.map_cons, List.cons.injEq] at hk2
                      obtain ⟨z', hz', hr⟩ := hrd x (hsub x (List.mem_cons_self ..))
                      have : z' = z := by rw [hz'] at hk2; simpa using hk2.1
                      have ih' := ih (fun y hy => hsub y (List.mem_cons_of_mem _ hy)) k2 hk2.2
                      rw [List.map_cons, List.map_cons, ih']
                      congr 1
                      simp only [rg, hr, Option.getD_some, intOf, this]
                exact hmap xs2 (fun _ h => h) ks g1
              have hcl : c < w.heap.size := h.lt hc
              have hgives := AnyQ.keys_gives L10 Fence.wide 4 trivial rfl (by decide) c mc es.length D0 w hcl hmv hown
              have hcall := AnyQ.appendSeq_in L11 Fence.wide 5 trivial rfl (by decide) (ρ1.f 10) #[.pointer (some ⟨c, 0, none⟩)] trivial (L10.f10.enters rfl)
                (fun ss => ss.Perm (intKeys D0)) (Maps.size D0) (by rw [hsz]; simp [maxLen]; omega) (by rw [hsz]; omega) w hgives
              rw [e1, e2] at hcall
              refine (callsIn_wide.1 hcall).mono ?_
              rintro en w' ⟨v, ss, rfl, hS, hrow, hnil, hb⟩
              have hmem := mem_orders (hS.trans hik)
              have hl := h.later hb
              cases ss with
              | nil =>
                have hv0 := hnil.2 rfl
                refine ⟨.lit (.slice none 0 0), S, v, E, ?_, rfl, by simp only [VR]; exact hv0, hl⟩
                rw [← hv]
                exact List.mem_map.2 ⟨[], hmem, rfl⟩
              | cons z zs =>
                obtain ⟨hl1, hr⟩ := hrow
                rcases hr with ⟨h0, _⟩ | ⟨gb, cap, cur, rfl, hbase, hgb, hr1, hr2, hr3, hr4⟩
                · have := hnil.1 h0; cases this
                · obtain ⟨E1, hE1, hk1, hrho, ⟨hfp, hpp⟩, hok1⟩ := hl.newcap' (m := (z :: zs).length) (k := cap) hr1 hr2
                  have hor : OR E1 (.cells ((z :: zs).map fun x => AVal.lit (.int e.q x)) e.kt (0, 0) (some (S.caps.length, 1))) (.cells cur (ρ2.t 26) (0, 0)) := by
                    refine ⟨(z :: zs).map (Value.int e.q), cur.toList.drop (z :: zs).length, cap, ?_, hk1, ?_, ?_⟩
                    · have := VRs.lits (E := E1) ((z :: zs).map (Value.int e.q))
                      rw [List.map_map] at this
                      exact this
                    · simp only [List.length_map, List.length_drop, Array.length_toList, hr3]
                      omega
                    · rw [e3]
                      congr 1
                      apply Array.ext'
                      simp only
                      rw [Nat.mul_one] at hr4
                      have := List.take_append_drop (z :: zs).length cur.toList
                      rw [hr4] at this
                      exact this.symm
                  obtain ⟨E2, hE2, hr2', hok2⟩ := hok1.adopt (c := gb) (o := .cells ((z :: zs).map fun x => AVal.lit (.int e.q x)) e.kt (0, 0) (some (S.caps.length, 1))) (u := .cells cur (ρ2.t 26) (0, 0))
                    (by intro b hb2; rw [hrho] at hb2; have := h.lt hb2; omega) (Nat.le_trans h.base hbase) hgb hor (by have := h.x.fresh hbase; unfold FreeX at this ⊢; rw [hfp, hpp]; exact this)
                  refine ⟨.slice S.heap.length 0 (z :: zs).length 0 (some S.caps.length), _, _, E2, ?_, rfl, ?_, hok2⟩
                  · rw [← hv]
                    exact List.mem_map.2 ⟨z :: zs, hmem, rfl⟩
                  · simp only [VR]
                    exact ⟨gb, cap, hr2', ⟨cap, hE2.kap _ _ hk1, Nat.zero_le _, rfl⟩, rfl⟩
            · simp at hv
          · simp at hv
        · simp at hv
      · simp at hv
    · simp at hv
  · simp at hv

abbrev SeqTab := List SeqEnt
def SeqsOk (P : Program) : SeqTab → Prop
  | [] => True
  | p :: l => SeqAt P p ∧ SeqsOk P l

def seqOracle : SeqTab → CallF
  | [], _, _, _ => none
  | e :: l, f, args, S => if f = e.f then match seqRun S e args with
      | some outs => some outs
      | none => seqOracle l f args S
    else seqOracle l f args S

theorem seqOracle_ok : ∀ {tab : SeqTab}, SeqsOk P tab → CallOk P K (seqOracle tab)
  | [], _ => by intro f args S outs hv; simp [seqOracle] at hv
  | e :: l, h => by
    intro f args S outs hv E X w xs hok hx
    simp only [seqOracle] at hv
    split at hv
    · rename_i hf; subst hf
      split at hv
      · rename_i os hos
        simp only [Option.some.injEq] at hv; subst hv
        exact seqRun_sound h.1 hos hok hx
      · exact seqOracle_ok h.2 _ args S outs hv E X w xs hok hx
    · exact seqOracle_ok h.2 f args S outs hv E X w xs hok hx

end Go.Eng

namespace Go.Eng
open Go.RowKit Go.Proofs

variable {P : Program} {K : Fix} {E F : Env} {S S' : St} {X : List (List Value)} {w w' : World} {a b v : AVal} {x y : Value} {t s : TypeId} {l r : List AVal} {xs : List Value} {i j n off f : Nat}

/-! ### strings.Join -/

def strLits : List AVal → Option (List ByteArray)
  | [] => some []
  | .lit (.string n) :: l => (strLits l).map (n :: ·)
  | _ => none

theorem strLits_sound : ∀ {l : List AVal} {ns : List ByteArray} {xs : List Value}, strLits l = some ns → VRs E l xs → xs = ns.map Value.string
  | [], ns, xs, hv, h => by
    simp only [strLits, Option.some.injEq] at hv; subst hv
    simp only [VRs] at h; subst h; rfl
  | a :: l, ns, xs, hv, h => by
    simp only [VRs] at h
    obtain ⟨x, r, h1, h2, rfl⟩ := h
    unfold strLits at hv
    split at hv
    · rename_i heq; cases heq
    · rename_i n l' heq
      simp only [List.cons.injEq] at heq
      obtain ⟨rfl, rfl⟩ := heq
      simp only [Option.map_eq_some_iff] at hv
      obtain ⟨ms, hm, rfl⟩ := hv
      simp only [VR] at h1
      rw [strLits_sound hm h2, h1]; rfl
    · simp at hv

/-- At least so many places a slice has. -/
def capLow (S : St) (m : Nat) : Option Nat → Nat
  | none => m
  | some q => S.caps.getD q 0 - m

theorem capLow_sound {m k : Nat} {q : Option Nat} (h : Ok K E S X w) (hc : CapR E m q k) : capLow S m q ≤ k := by
  cases q with
  | none => simp only [CapR] at hc; simp [capLow, hc]
  | some q =>
    simp only [CapR] at hc
    obtain ⟨n, h1, h2, h3⟩ := hc
    simp only [capLow]
    have hq := h.kdom q (by simp [h1])
    obtain ⟨n', g1, g2, _⟩ := h.lb q S.caps[q] (by simp [hq])
    rw [h1] at g1
    have : n = n' := Option.some.inj g1
    have e : S.caps.getD q 0 = S.caps[q] := by simp [List.getD, hq]
    rw [e]; omega

structure JoinAt (P : Program) (f : FuncId) : Prop where
  ex : ∃ ρ : Go.Shelf.Ren, Lays.n156 P ρ ∧ Builder.Extra P ρ ∧ ρ.f 156 = f

def joinRun (S : St) : List AVal → Option (List (AVal × St))
  | [.slice b off len m q, .lit (.string sep)] => do
    let l ← cellsOf (← S.heap[b]?)
    let r ← sub l off len
    let ns ← strLits r
    let out := Lib.join (ns.map (·.data.toList)) sep.data.toList
    if len ≤ capLow S m q ∧ len ≤ 1000000 ∧ out.length ≤ 1000000 then some [(.lit (.string ⟨out.toArray⟩), S)] else none
  | _ => none

theorem joinRun_sound {f : FuncId} (he : JoinAt P f) {args : List AVal} {outs : List (AVal × St)} (hv : joinRun S args = some outs) (h : Ok K E S X w) (hx : VRs E args xs) :
    Calls P f xs.toArray w fun en w' => ∃ v S' y E', (v, S') ∈ outs ∧ en = .returned y ∧ VR E' v y ∧ Ok K E' S' X w' := by
  unfold joinRun at hv
  split at hv
  · rename_i b off len m q sep
    simp only [Option.bind_eq_bind, Option.bind_eq_some_iff] at hv
    obtain ⟨o, ho, l, hl, r, hr, ns, hn, hv⟩ := hv
    split at hv
    · rename_i hcond
      obtain ⟨c1, c2, c3⟩ := hcond
      simp only [Option.some.injEq] at hv; subst hv
      obtain ⟨p, q', rfl, hp, hq⟩ := hx.pair
      simp only [VR] at hp; obtain ⟨c, k, hc, hk, rfl⟩ := hp
      simp only [VR] at hq; subst hq
      obtain ⟨ys, hys, hcell⟩ := h.cells hc ho hl
      obtain ⟨r1, r2⟩ := sub_rel hys hr
      have hns := strLits_sound hn r1
      have hlen : ns.length = len := by
        have := congrArg List.length hns
        simp at this; omega
      obtain ⟨ρ, L, B, rfl⟩ := he.ex
      have hcap := capLow_sound h hk
      have hj := Any.strings_Join L B c off k ns sep w (fun j z hz => by
        have hjl : j < ns.length := (List.getElem?_eq_some_iff.1 hz).1
        rw [hcell _ (by omega)]
        have h1 : ((ys.drop off).take len)[j]? = (ns.map Value.string)[j]? := by rw [hns]
        rw [List.getElem?_take_of_lt (by omega), List.getElem?_drop] at h1
        rw [h1, List.getElem?_map, hz]; rfl) (h.lt hc) (by omega) (by omega) (by omega)
      rw [hlen] at hj
      refine hj.mono ?_
      rintro e w' ⟨rfl, hb⟩
      exact ⟨_, S, _, E, List.mem_singleton.2 rfl, rfl, by simp only [VR], h.later hb⟩
    · simp at hv
  · simp at hv

def joinOracle (f : FuncId) : CallF := fun g args S => if g = f then joinRun S args else none

theorem joinOracle_ok {f : FuncId} (he : JoinAt P f) : CallOk P K (joinOracle f) := by
  intro g args S outs hv E X w xs hok hx
  unfold joinOracle at hv
  split at hv
  · rename_i hg; subst hg
    exact joinRun_sound he hv hok hx
  · simp at hv

/-- One oracle behind another. -/
def orElse (p q : CallF) : CallF := fun f args S => match p f args S with
  | some o => some o
  | none => q f args S

theorem orElse_ok {p q : CallF} (hp : CallOk P K p) (hq : CallOk P K q) : CallOk P K (orElse p q) := by
  intro f args S outs hv
  unfold orElse at hv
  split at hv
  · rename_i o ho
    simp only [Option.some.injEq] at hv; subst hv
    exact hp f args S o ho
  · exact hq f args S outs hv

/-- A call of no arguments that is known to be true. -/
def trueAt (fs : List FuncId) : CallF := fun f args S => if fs.contains f then (match args with
  | [] => some [(.lit (.bool true), S)]
  | _ => none) else none

theorem trueAt_ok {fs : List FuncId} (h : ∀ f ∈ fs, ∀ w, Calls P f #[] w fun e w' => e = .returned (.bool true) ∧ Below w.heap.size w w') : CallOk P K (trueAt fs) := by
  intro f args S outs hv E X w xs hok hx
  unfold trueAt at hv
  split at hv
  · rename_i hf
    split at hv
    · simp only [Option.some.injEq] at hv; subst hv
      simp only [VRs] at hx; subst hx
      refine (h f (by simpa using hf) w).mono ?_
      rintro e w' ⟨rfl, hb⟩
      exact ⟨_, S, _, E, List.mem_singleton.2 rfl, rfl, by simp only [VR], hok.later hb⟩
    · simp at hv
  · simp at hv

/-- A call of known arguments that gives a known value. -/
structure LitEnt where
  f : FuncId
  args : List Value
  res : Value

def litOracle (e : LitEnt) : CallF := fun f args S =>
  if f = e.f then (match toLits args with
    | some xs => if allSame (beqV 30) xs e.args = true then some [(.lit e.res, S)] else none
    | none => none) else none

theorem litOracle_ok {e : LitEnt} (h : ∀ w, Calls P e.f e.args.toArray w fun en w' => en = .returned e.res ∧ Below w.heap.size w w') : CallOk P K (litOracle e) := by
  intro f args S outs hv E X w xs hok hx
  unfold litOracle at hv
  split at hv
  · rename_i hf; subst hf
    split at hv
    · rename_i ys hys
      split at hv
      · rename_i hs
        simp only [Option.some.injEq] at hv; subst hv
        have e1 := allSame_eq (fun x y => beqV_eq 30 x y) hs
        have e2 := toLits_eq hys hx
        rw [e2, e1]
        refine (h w).mono ?_
        rintro en w' ⟨rfl, hb⟩
        exact ⟨_, S, _, E, List.mem_singleton.2 rfl, rfl, by simp only [VR], hok.later hb⟩
      · simp at hv
    · simp at hv
  · simp at hv

def isLit (v : Value) : AVal → Bool
  | .lit x => beqV 30 x v
  | _ => false
theorem isLit_eq {v : Value} {a : AVal} (h : isLit v a = true) : a = .lit v := by
  unfold isLit at h
  split at h
  · rw [beqV_eq 30 _ _ h]
  · cases h

def allIs (v : Value) (o : Option (List (AVal × St))) : Bool :=
  match o with
  | some l => l.all fun p => isLit v p.1
  | none => false

/-- The same, where the call was run by the machine over the package variables that are known. -/
theorem litOracle_run {gl : Nat → Option (List Value)} {call : Fix → CallF} {e : LitEnt} (hc : ∀ K : Fix, K.glob = gl → CallOk P K (call K))
    (hr : ∀ K : Fix, K.glob = gl → allIs e.res (call K e.f (e.args.map .lit) S0) = true) : ∀ K : Fix, K.glob = gl → CallOk P K (litOracle e) := by
  intro K hK f args S outs hv E X w xs hok hx
  unfold litOracle at hv
  split at hv
  · rename_i hf; subst hf
    split at hv
    · rename_i ys hys
      split at hv
      · rename_i hs
        simp only [Option.some.injEq] at hv; subst hv
        have e1 := allSame_eq (fun x y => beqV_eq 30 x y) hs
        have e2 := toLits_eq hys hx
        rw [e2, e1]
        have hg : ∀ g l, K.glob g = some l → g < w.heap.size ∧ ∀ i v, l[i]? = some v → w.cell? ⟨g, i, none⟩ = some v := by
          intro g l hgl
          exact ⟨Nat.lt_of_lt_of_le (K.hglob g l hgl).1 hok.base, hok.globAt hgl⟩
        have hrun := hr ⟨K.glob, w.heap.size, w, hg, K.ob, fun _ => none⟩ hK
        have hcall := hc ⟨K.glob, w.heap.size, w, hg, K.ob, fun _ => none⟩ hK
        cases ho : call ⟨K.glob, w.heap.size, w, hg, K.ob, fun _ => none⟩ e.f (e.args.map .lit) S0 with
        | none => rw [ho] at hrun; cases hrun
        | some os =>
          rw [ho] at hrun
          refine (hcall e.f (e.args.map .lit) S0 os ho (E0 _) [] w e.args (ok0 _ rfl rfl) (VRs.lits _)).mono ?_
          rintro en w' ⟨v, S', y, E', h1, rfl, h2, h3⟩
          simp only [allIs, List.all_eq_true] at hrun
          have ht := isLit_eq (hrun _ h1)
          simp only at ht; subst ht
          simp only [VR] at h2; subst h2
          exact ⟨_, S, _, E, List.mem_singleton.2 rfl, rfl, by simp only [VR], hok.later h3.below⟩
      · simp at hv
    · simp at hv
  · simp at hv

/-- Likewise for a call of no arguments that is true. -/
def trueEnt (f : FuncId) : LitEnt := ⟨f, [], .bool true⟩

def litOracles : List LitEnt → CallF
  | [] => noOracle
  | e :: l => orElse (litOracle e) (litOracles l)

end Go.Eng

namespace Go.Eng
open Go.ChangeShapes Go.WideShapes Go.ChangeAt Go.RowKit

def cellV {H : Type} : DataW H → Value
  | .lit (.int q n) => .int q n
  | _ => undef
def rowV {H : Type} : DataW H → List Value
  | .agg ps => ps.map cellV
  | _ => []
def tabV {H : Type} : DataW H → List Value
  | .agg rs => rs.flatMap rowV
  | _ => []

theorem chunksL {α : Type} (k : Nat) : ∀ (n : Nat) (cs : List α), cs.length = n * k → (List.range n).flatMap (fun i => (cs.drop (i * k)).take k) = cs
  | 0, cs, h => by
    have : cs = [] := List.length_eq_zero_iff.1 (by simpa using h)
    subst this; rfl
  | n + 1, cs, h => by
    rw [List.range_succ_eq_map, List.flatMap_cons, List.flatMap_map]
    have hl : (cs.drop k).length = n * k := by rw [List.length_drop, h, Nat.succ_mul]; omega
    have ih := chunksL k n (cs.drop k) hl
    have e : (fun i => (cs.drop (Nat.succ i * k)).take k) = fun i => ((cs.drop k).drop (i * k)).take k := by
      funext i
      rw [List.drop_drop]
      congr 2
      rw [Nat.succ_mul]; omega
    rw [e, ih, Nat.zero_mul, List.drop_zero, List.take_append_drop]

variable {H : Type} {enc : TypeId × Value → H} {P : Program} {w : World} {base : Nat} {spare : Nat → Bool} {held : Bool} {fuel : Nat} {t e : TypeId} {q : IntKind} {n : Nat} {cs : List Value}

/-- An array of whole numbers reads as its cells. -/
theorem row_cells {x : DataW H × List MemPlace} (ht : P.underlying t = some (.array n e)) (he : P.underlying e = some (.int q)) (c1 : P.cellsOf e = 1) (c2 : P.cellsOf t = n)
    (h : DataW.trod enc P w base spare held fuel t cs = some x) : rowV x.1 = cs := by
  obtain ⟨xs, m, _, rfl, hl, hn, hel⟩ := DataW.trod_array ht h
  rw [c2] at hl
  simp only [rowV]
  apply List.ext_getElem?
  intro i
  rcases Nat.lt_or_ge i n with hi | hi
  · have hE := hel i hi
    rw [c1, Nat.mul_one, List.getElem?_eq_getElem (by omega)] at hE
    obtain ⟨z, e1, e2, _⟩ := DataW.trod_int he hE
    have h0 : ((cs.drop i).take 1)[0]? = some (.int q z) := by rw [e1]; rfl
    have h1 : cs[i]? = some (.int q z) := by simpa using h0
    rw [h1, List.getElem?_map, List.getElem?_map, List.getElem?_eq_getElem (by omega : i < xs.length), e2]
    rfl
  · rw [List.getElem?_eq_none (by simp; omega), List.getElem?_eq_none (by omega)]

/-- Two numbers side by side read as their cells. -/
theorem pair_cells {x : DataW H × List MemPlace} {f0 f1 : Field} (ht : P.underlying t = some (.struct #[f0, f1])) (h0 : P.underlying f0.type = some (.int q)) (h1 : P.underlying f1.type = some (.int q))
    (c0 : P.cellsOf f0.type = 1) (c1 : P.cellsOf f1.type = 1) (o0 : f0.offset = 0) (o1 : f1.offset = 1) (c2 : P.cellsOf t = 2)
    (h : DataW.trod enc P w base spare held fuel t cs = some x) : rowV x.1 = cs := by
  obtain ⟨y0, y1, m, rfl, hl, g0, g1⟩ := trod_struct2 ht h
  rw [c2] at hl
  rw [c0, o0] at g0
  rw [c1, o1] at g1
  obtain ⟨a, e1, e2, _⟩ := DataW.trod_int h0 g0
  obtain ⟨b, e3, e4, _⟩ := DataW.trod_int h1 g1
  match cs, hl with
  | [u, v], _ =>
    simp at e1 e3
    rw [e2, e4, e1, e3]
    rfl

/-- An array of such. -/
theorem tab_cells {x : DataW H × List MemPlace} {r : TypeId} {k : Nat} (hr : P.underlying r = some (.array n t)) (hrow : ∀ {m : Nat} {ds : List Value} {y : DataW H × List MemPlace}, DataW.trod enc P w base spare held m t ds = some y → rowV y.1 = ds)
    (c2 : P.cellsOf t = k) (c3 : P.cellsOf r = n * k)
    (h : DataW.trod enc P w base spare held fuel r cs = some x) : tabV x.1 = cs := by
  obtain ⟨xs, m, _, rfl, hl, hn, hel⟩ := DataW.trod_array hr h
  rw [c3] at hl
  simp only [tabV, List.flatMap_map]
  have hc := chunksL k n cs hl
  have e : xs = (List.range n).map fun i => xs[i]?.getD (.nil, []) := by
    apply List.ext_getElem?
    intro i
    rcases Nat.lt_or_ge i n with hi | hi
    · simp [hi, List.getElem?_eq_getElem (by omega : i < xs.length)]
    · rw [List.getElem?_eq_none (by omega), List.getElem?_eq_none (by simp; omega)]
  rw [e, List.flatMap_map]
  refine Eq.trans ?_ hc
  rw [List.flatMap_def, List.flatMap_def]
  congr 1
  refine List.map_congr_left fun i hi => ?_
  have hin := List.mem_range.1 hi
  have hE := hel i hin
  rw [c2, List.getElem?_eq_getElem (by omega)] at hE
  rw [List.getElem?_eq_getElem (by omega : i < xs.length)]
  exact hrow hE
end Go.Eng

namespace Go.Eng
open Go.RowKit Go.Proofs

variable {P : Program} {K : Fix} {E F : Env} {S S' : St} {X : List (List Value)} {w w' : World} {a b v : AVal} {x y : Value} {t s : TypeId} {l r : List AVal} {xs : List Value} {i j n off f : Nat}

/-! ### slices.Delete -/

def intLits (k : IntKind) : List AVal → Option (List Int)
  | [] => some []
  | .lit (.int k' n) :: l => if k' = k then (intLits k l).map (n :: ·) else none
  | _ => none

theorem intLits_sound {k : IntKind} : ∀ {l : List AVal} {ns : List Int} {xs : List Value}, intLits k l = some ns → VRs E l xs → xs = ns.map (Value.int k)
  | [], ns, xs, hv, h => by
    simp only [intLits, Option.some.injEq] at hv; subst hv
    simp only [VRs] at h; subst h; rfl
  | a :: l, ns, xs, hv, h => by
    simp only [VRs] at h
    obtain ⟨x, r, h1, h2, rfl⟩ := h
    unfold intLits at hv
    split at hv
    · rename_i heq; cases heq
    · rename_i k' n l' heq
      simp only [List.cons.injEq] at heq
      obtain ⟨rfl, rfl⟩ := heq
      split at hv
      · rename_i hk; subst hk
        simp only [Option.map_eq_some_iff] at hv
        obtain ⟨ms, hm, rfl⟩ := hv
        simp only [VR] at h1
        rw [intLits_sound hm h2, h1]; rfl
      · simp at hv
    · simp at hv

/-- A capacity is no more than so much. -/
theorem cap_le {m k : Nat} {q : Option Nat} (h : Ok K E S X w) (hc : CapR E m q k) (hm : m ≤ 9223372036854775807) : k ≤ 9223372036854775807 := by
  cases q with
  | none => simp only [CapR] at hc; omega
  | some q =>
    simp only [CapR] at hc
    obtain ⟨n, h1, h2, h3⟩ := hc
    have hq := h.kdom q (by simp [h1])
    obtain ⟨n', g1, _, g3⟩ := h.lb q S.caps[q] (by simp [hq])
    rw [h1] at g1
    have : n = n' := Option.some.inj g1
    omega

structure DelAt (P : Program) (f : FuncId) (k : IntKind) : Prop where
  ex : ∃ ρ : Go.Shelf.Ren, SlLaysE.n45 P ρ ∧ (∀ w, (zeroValue (ρ.t 23)).run P w = .ok (.int k 0) w) ∧ (∃ i0, P.info? (ρ.t 23) = some i0 ∧ i0.size = 1) ∧ ρ.f 45 = f

def delList (ns : List Int) (i j : Nat) : List Int := ns.take i ++ ns.drop j ++ List.replicate (j - i) 0

def delRun (k : IntKind) (S : St) : List AVal → Option (List (AVal × St))
  | [.slice b off len m q, .lit (.int .i64 i), .lit (.int .i64 j)] =>
    match S.heap[b]? with
    | some (.cells l e fz op) =>
      match sub l off len with
      | some r =>
        match intLits k r with
        | some ns =>
          if 0 ≤ i ∧ i ≤ j ∧ j ≤ len ∧ len ≤ capLow S m q ∧ m ≤ 9223372036854775807 ∧ fz = (0, 0) then
            some [(.slice b off (len - (j.toNat - i.toNat)) m q, { S with heap := S.heap.set b (.cells (l.take off ++ (delList ns i.toNat j.toNat).map (fun n => AVal.lit (.int k n)) ++ l.drop (off + len)) e fz op) })]
          else none
        | none => none
      | none => none
    | _ => none
  | _ => none

theorem putCells_list {α : Type} [Inhabited α] (enc : α → Value) (xs : List Value) (off : Nat) (d : List α) (h : off + d.length ≤ xs.length) :
    Go.Sort.putCells enc off d.toArray xs.toArray = (xs.take off ++ d.map enc ++ xs.drop (off + d.length)).toArray := by
  apply Array.ext_getElem?
  intro k
  simp only [Go.Sort.putCells, Array.getElem?_mapIdx, List.getElem?_toArray, List.size_toArray]
  rw [List.append_assoc, List.getElem?_append]
  have hl : (xs.take off).length = off := by simp; omega
  rw [hl]
  by_cases h1 : k < off
  · rw [if_pos h1, List.getElem?_take_of_lt h1]
    have : ¬ (off ≤ k ∧ k < off + d.length) := by omega
    simp only [this, if_false]
    cases xs[k]? <;> rfl
  · rw [if_neg h1, List.getElem?_append, List.length_map]
    by_cases h2 : k < off + d.length
    · have h3 : k - off < d.length := by omega
      rw [if_pos h3, List.getElem?_map, List.getElem?_eq_getElem h3]
      have hk : k < xs.length := by omega
      have : off ≤ k ∧ k < off + d.length := by omega
      rw [List.getElem?_eq_getElem hk]
      simp only [Option.map_some, this, and_self, if_true]
      rw [getElem!_pos d.toArray (k - off) (by simpa using h3)]
      simp
    · have h3 : ¬ k - off < d.length := by omega
      rw [if_neg h3, List.getElem?_drop]
      have : ¬ (off ≤ k ∧ k < off + d.length) := by omega
      simp only [this, if_false]
      rw [show off + d.length + (k - off - d.length) = k by omega]
      cases xs[k]? <;> rfl

theorem putRow_heap {α : Type} [Inhabited α] {enc : α → Value} {c d : Nat} {cs : Array Value} {e : TypeId} {fz : Nat × Nat} {D : Array α} (h : w.heap[c]? = some (.cells cs e fz)) :
    Go.Sort.putRow enc (Go.Sort.ahead w d) c off D = { ({ w with drawn := w.drawn + d } : World) with heap := w.heap.setIfInBounds c (.cells (Go.Sort.putCells enc off D cs) e fz) } := by
  unfold Go.Sort.putRow Go.Sort.mapBlock Go.Sort.ahead
  congr 1
  apply Array.ext_getElem?
  intro k
  simp only [Array.getElem?_modify, Array.getElem?_setIfInBounds]
  by_cases hk : c = k
  · subst hk
    have hlt : c < w.heap.size := (Array.getElem?_eq_some_iff.1 h).1
    have hg : w.heap[c] = .cells cs e fz := (Array.getElem?_eq_some_iff.1 h).2
    simp [hg, hlt, Go.Sort.onCells]
  · simp [hk]

theorem delRun_sound {f : FuncId} {k : IntKind} (he : DelAt P f k) {args : List AVal} {outs : List (AVal × St)} (hv : delRun k S args = some outs) (h : Ok K E S X w) (hx : VRs E args xs) :
    Calls P f xs.toArray w fun en w' => ∃ v S' y E', (v, S') ∈ outs ∧ en = .returned y ∧ VR E' v y ∧ Ok K E' S' X w' := by
  unfold delRun at hv
  split at hv
  · rename_i b off len m q i j
    split at hv
    · rename_i l e fz op ho
      split at hv
      · rename_i r hr
        split at hv
        · rename_i ns hn
          split at hv
          · rename_i hcond
            obtain ⟨c1, c2, c3, c4, c5, rfl⟩ := hcond
            simp only [Option.some.injEq] at hv; subst hv
            simp only [VRs] at hx
            obtain ⟨x1, r1, hp, ⟨x2, r2, hi, ⟨x3, r3, hj, rfl, rfl⟩, rfl⟩, rfl⟩ := hx
            simp only [VR] at hp hi hj
            subst hi hj
            obtain ⟨c, cap, hc, hk, rfl⟩ := hp
            obtain ⟨c', u, g1, g2, g3, g4⟩ := h.obj b _ ho
            rw [hc] at g1; obtain rfl := Option.some.inj g1
            obtain ⟨ρ, L, hz, ⟨i0, hi0, hi1⟩, rfl⟩ := he.ex
            have hcap := capLow_sound h hk
            have hmax := cap_le h hk c5
            -- the block's cells
            obtain ⟨ys, tl, hys, hu⟩ : ∃ ys tl, VRs E l ys ∧ u = .cells (ys ++ tl).toArray e (0, 0) := by
              match op, g4 with
              | none, g4 => obtain ⟨ys, h1, h2⟩ := g4; exact ⟨ys, [], h1, by simpa using h2⟩
              | some (q, sz), g4 => obtain ⟨ys, tl, _, h1, _, _, h2⟩ := g4; exact ⟨ys, tl, h1, h2⟩
            subst hu
            obtain ⟨r1, r2⟩ := sub_rel hys hr
            have hns := intLits_sound hn r1
            have hlen : ns.length = len := by
              have := congrArg List.length hns
              simp at this; omega
            have hget : ∀ t, t < len → (ys ++ tl)[off + t]? = some (Value.int k ns[t]!) := by
              intro t ht
              rw [List.getElem?_append_left (by omega)]
              have h1 : ((ys.drop off).take len)[t]? = (ns.map (Value.int k))[t]? := by rw [hns]
              rw [List.getElem?_take_of_lt ht, List.getElem?_drop] at h1
              rw [h1, List.getElem?_map, List.getElem?_eq_getElem (by omega), getElem!_pos ns t (by omega)]; rfl
            have hH : Go.Sort.Holds (Value.int k) w c off ns.toArray := by
              intro t ht
              have ht' : t < len := by simpa [hlen] using ht
              refine ⟨?_, by simp [World.frozen?, g3]⟩
              have : w.cell? ⟨c, off + t, none⟩ = (ys ++ tl)[off + t]? := by simp [World.cell?, g3]
              rw [this, hget t ht']
              simp
            have hd := AnyE.slices_Delete L (Value.int k) (fun _ => rfl) 0 hz i0 hi0 hi1 c off cap i.toNat j.toNat ns.toArray w hH (by simp; omega) hmax (by omega) (by simp; omega)
            have e1 : ((i.toNat : Nat) : Int) = i := by omega
            have e2 : ((j.toNat : Nat) : Int) = j := by omega
            simp only [List.size_toArray, hlen, e1, e2] at hd
            refine hd.mono ?_
            rintro en w' ⟨rfl, d, rfl⟩
            have hdl : (delList ns i.toNat j.toNat).length = len := by unfold delList; simp; omega
            rw [putRow_heap g3]
            have e3 : (ns.take i.toNat ++ ns.drop j.toNat ++ List.replicate (j.toNat - i.toNat) 0) = delList ns i.toNat j.toNat := rfl
            rw [e3, putCells_list _ _ _ _ (by rw [hdl]; simp; omega)]
            have hol : off ≤ ys.length := by omega
            have e4 : ((ys ++ tl).take off ++ (delList ns i.toNat j.toNat).map (Value.int k) ++ (ys ++ tl).drop (off + (delList ns i.toNat j.toNat).length)) = (ys.take off ++ (delList ns i.toNat j.toNat).map (Value.int k) ++ ys.drop (off + len)) ++ tl := by
              rw [hdl, List.take_append_of_le_length hol, List.drop_append_of_le_length (by omega)]
              simp only [List.append_assoc]
            rw [e4]
            have hnew : VRs E (l.take off ++ (delList ns i.toNat j.toNat).map (fun n => AVal.lit (.int k n)) ++ l.drop (off + len)) (ys.take off ++ (delList ns i.toNat j.toNat).map (Value.int k) ++ ys.drop (off + len)) := by
              refine ((hys.take off).append ?_).append (hys.drop _)
              have := VRs.lits (E := E) ((delList ns i.toNat j.toNat).map (Value.int k))
              rw [List.map_map] at this
              exact this
            have hor : OR E (.cells (l.take off ++ (delList ns i.toNat j.toNat).map (fun n => AVal.lit (.int k n)) ++ l.drop (off + len)) e (0, 0) op) (.cells ((ys.take off ++ (delList ns i.toNat j.toNat).map (Value.int k) ++ ys.drop (off + len)) ++ tl).toArray e (0, 0)) := by
              match op, g4 with
              | none, g4 =>
                obtain ⟨zs, h1, h2⟩ := g4
                have htl : tl = [] := by
                  simp only [Obj.cells.injEq, and_true] at h2
                  have := congrArg Array.size h2
                  have a1 := h1.length
                  have a2 := hys.length
                  simp at this
                  exact List.length_eq_zero_iff.1 (by omega)
                subst htl
                exact ⟨_, hnew, by simp⟩
              | some (q', sz), g4 =>
                obtain ⟨zs, tl', nn, h1, h2, h3, h4⟩ := g4
                refine ⟨_, tl, nn, hnew, h2, ?_, rfl⟩
                simp only [Obj.cells.injEq, and_true] at h4
                have := congrArg Array.size h4
                have a1 := h1.length
                have a2 := hys.length
                simp at this
                rw [← h3]
                simp [hdl]
                omega
            exact ⟨_, _, _, E, List.mem_singleton.2 rfl, rfl, by simp only [VR]; exact ⟨c, cap, hc, hk, rfl⟩, (h.drawn (w.drawn + d)).put hc hor⟩
          · simp at hv
        · simp at hv
      · simp at hv
    · simp at hv
  · simp at hv

def delOracle (f : FuncId) (k : IntKind) : CallF := fun g args S => if g = f then delRun k S args else none

theorem delOracle_ok {f : FuncId} {k : IntKind} (he : DelAt P f k) : CallOk P K (delOracle f k) := by
  intro g args S outs hv E X w xs hok hx
  unfold delOracle at hv
  split at hv
  · rename_i hg; subst hg
    exact delRun_sound he hv hok hx
  · simp at hv

end Go.Eng

namespace Go.Eng
open Go.RowKit

variable {P : Program} {K : Fix} {E F : Env} {S S' : St} {X : List (List Value)} {w w' : World} {a b v : AVal} {x y : Value} {xs : List Value}

/-! ### calls that were run one by one, at known states -/

structure StEnt where
  f : FuncId
  args : List AVal
  S : St
  outs : List (AVal × St)

def stOracle (e : StEnt) : CallF := fun g a s => if g = e.f then (if beqP (.tuple a, s) (.tuple e.args, e.S) = true then some e.outs else none) else none

theorem stOracle_ok {call : CallF} {e : StEnt} (hc : CallOk P K call) (h : call e.f e.args e.S = some e.outs) : CallOk P K (stOracle e) := by
  intro g a s outs hv E X w xs hok hx
  unfold stOracle at hv
  split at hv
  · rename_i hg
    split at hv
    · rename_i hb
      simp only [Option.some.injEq] at hv; subst hv
      have he := beqP_eq _ _ hb
      simp only [Prod.mk.injEq, AVal.tuple.injEq] at he
      obtain ⟨rfl, rfl⟩ := he
      subst hg
      exact hc _ _ _ _ h E X w xs hok hx
    · simp at hv
  · simp at hv

def stOracles : List StEnt → CallF
  | [] => noOracle
  | e :: l => orElse (stOracle e) (stOracles l)

theorem stOracles_ok {l : List StEnt} (h : ∀ e ∈ l, CallOk P K (stOracle e)) : CallOk P K (stOracles l) := by
  induction l with
  | nil => exact noOracle_ok
  | cons e l ih => exact orElse_ok (h e (List.mem_cons_self ..)) (ih fun e he => h e (List.mem_cons_of_mem _ he))

end Go.Eng
