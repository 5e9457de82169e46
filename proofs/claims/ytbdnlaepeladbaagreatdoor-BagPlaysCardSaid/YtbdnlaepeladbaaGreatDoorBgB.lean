/- A bag told by rows: what its functions do with the rows. Conditions: how the bag lies in memory. -/
import Derived.Test.YtbdnlaepeladbaaGreatDoorBgA
import Derived.Test.YtbdnlaepeladbaaGreatDoorEngD
set_option linter.unusedSimpArgs false
set_option linter.unusedVariables false
namespace Go.Proofs.YtbdnlaepeladbaaGreatDoor
open Go.ChangeShapes Go.WideShapes Go.ChangeAt Go.RowKit Go.Eng

/-! ### a bag, told by rows -/

def fiveK : List TK := [.int .u64, .int .u64, .int .u64, .int .u64, .int .u64]
def oneRows (ns : List Int) : List (List Int) := ns.map fun n => [n]

def rowP (p : Pl) (x : Nat) : List Int := [(x : Int), p.born, p.since, p.proved]

structure BagI (b m : Nat) (L : Value) (es : List (Int × Pl)) (ns : List Int) (B : List (List Int)) (w : World) (D R : Nat → Prop) : Prop where
  bag : BagAt w b m L es
  lst : ListAt w L ns
  bm : b ≠ m
  srt : SortedR B
  keys : Keys1 es
  no : ∀ id, aget id es = none → rfind id B = none
  ent : ∀ id p, aget id es = some p → ∃ x : Nat, WordAt w p.c x ∧ rfind id B = some (rowP p x)
  inj : ∀ i j p q, aget i es = some p → aget j es = some q → p.c = q.c → i = j
  wf : ∀ r ∈ B, colWfs fiveK r = true
  nodup : ns.Nodup
  nwf : ∀ n ∈ ns, (Lit.int .u64 n).wf = true
  zero : rfind 0 B = none
  Db : D b
  Dm : D m
  Dc : ∀ id p, aget id es = some p → D p.c
  RL : ∀ g o n c, L = .slice (some ⟨g, o, none⟩) n c → R g

def BagR (v : Value) (gs : List U) (w : World) (D R : Nat → Prop) : Prop :=
  ∃ b m L es ns B, v = .pointer (some ⟨b, 0, none⟩) ∧ gs = [.rows B, .rows (oneRows ns)] ∧ BagI b m L es ns B w D R

theorem ListAt.same {w w' : World} {L : Value} {ns : List Int} (h : ListAt w L ns) (hs : ∀ g o n c, L = .slice (some ⟨g, o, none⟩) n c → w'.heap[g]? = w.heap[g]?) : ListAt w' L ns := by
  rcases h with h | ⟨g, cap, cs, h1, h2, h3, h4, h5⟩
  · exact .inl h
  · exact .inr ⟨g, cap, cs, h1, (hs g 0 _ _ h1).trans h2, h3, h4, h5⟩

theorem BagI.same {b m : Nat} {L : Value} {es : List (Int × Pl)} {ns : List Int} {B : List (List Int)} {w w' : World} {D R : Nat → Prop} (h : BagI b m L es ns B w D R) (hf : ∀ c, D c ∨ R c → w'.heap[c]? = w.heap[c]?) : BagI b m L es ns B w' D R where
  bag := ⟨(hf b (.inl h.Db)).trans h.bag.1, h.bag.2.same (hf m (.inl h.Dm))⟩
  lst := h.lst.same fun g o n c e => hf g (.inr (h.RL g o n c e))
  bm := h.bm
  srt := h.srt
  keys := h.keys
  no := h.no
  ent := fun id p hp => by
    obtain ⟨x, h1, h2⟩ := h.ent id p hp
    exact ⟨x, (hf p.c (.inl (h.Dc id p hp))).trans h1, h2⟩
  inj := h.inj
  wf := h.wf
  nodup := h.nodup
  nwf := h.nwf
  zero := h.zero
  Db := h.Db
  Dm := h.Dm
  Dc := h.Dc
  RL := h.RL

theorem BagR.frame (v : Value) (gs : List U) (w w' : World) (D R : Nat → Prop) (h : BagR v gs w D R) (hf : ∀ c, D c ∨ R c → w'.heap[c]? = w.heap[c]?) : BagR v gs w' D R := by
  obtain ⟨b, m, L, es, ns, B, h1, h2, h3⟩ := h
  exact ⟨b, m, L, es, ns, B, h1, h2, h3.same hf⟩

/-! ### what the functions do with rows -/

/-- The first row of a key is another one. -/
def rset (k : Int) (zs : List Int) : List (List Int) → List (List Int)
  | [] => []
  | r :: l => if k = r.headD 0 then (k :: zs) :: l else r :: rset k zs l
theorem rset_length (k : Int) (zs : List Int) : ∀ l : List (List Int), (rset k zs l).length = l.length
  | [] => rfl
  | r :: l => by unfold rset; split <;> simp [rset_length k zs l]
theorem rset_rput {k : Int} {zs : List Int} : ∀ {l : List (List Int)}, SortedR l → (rfind k l).isSome → rset k zs l = rput k zs l
  | [], _, h => by simp [rfind] at h
  | r :: l, hs, h => by
    unfold rput rset
    unfold rfind at h
    split
    · rename_i he
      rw [if_neg (by omega)]
    · rename_i hne
      rw [if_neg hne] at h
      split
      · exfalso
        have hn : rfind k l = none := rfind_none fun r' hr' => by
          have := (List.pairwise_cons.1 hs).1 r' hr'
          omega
        rw [hn] at h; cases h
      · rw [rset_rput (List.pairwise_cons.1 hs).2 h]

def enterB (B : List (List Int)) (id st now : Int) : List (List Int) :=
  if id = 0 ∨ st < 0 ∨ 3 < st ∨ (rfind id B).isSome then B else rput id [st, now, now, now] B
def enterE (B : List (List Int)) (id st : Int) : Int :=
  if id = 0 ∨ st < 0 ∨ 3 < st then 2 else if (rfind id B).isSome then 10 else 0
def wordR (B : List (List Int)) (id : Int) : Int := ((rfind id B).getD []).headD 0
def swapOk (B : List (List Int)) (id old st : Int) : Bool := (rfind id B).isSome && (mayB (old % 4) st && wordR B id == old)
def swapW (B : List (List Int)) (id old st : Int) : Int := if swapOk B id old st then (toN old.toNat st : Int) else wordR B id
def swapB (B : List (List Int)) (id old st now : Int) : List (List Int) :=
  match rfind id B with
  | some [_, b, s, p] => if swapOk B id old st then rset id [(toN old.toNat st : Int), b, if st = 0 then now else s, p] B else B
  | _ => B
def provedB (B : List (List Int)) (id now : Int) : List (List Int) :=
  match rfind id B with
  | some [x, b, s, _] => rset id [x, b, s, now] B
  | _ => B
def knownE (B : List (List Int)) (id : Int) : Int := if (rfind id B).isSome then 0 else 9
def publishL (l B : List (List Int)) (id : Int) : List (List Int) := if (rfind id B).isSome then (if [id] ∈ l then l else l ++ [[id]]) else l
def unlistL (l B : List (List Int)) (id : Int) : List (List Int) := if (rfind id B).isSome then l.filter (fun r => r != [id]) else l

/-- The functions, by numbers. -/
def fnBag : Nat → List U → Option U
  | 101, [.rows B, .int id, .int st, .int now] => some (.rows (enterB B id st now))
  | 103, [.rows B, .int id, .int st] => some (.int (enterE B id st))
  | 104, [.rows B, .int id, .int old, .int st, .int now] => some (.rows (swapB B id old st now))
  | 107, [.rows B, .int id, .int old, .int st] => some (.int (swapW B id old st))
  | 111, [.rows B, .int id, .int old, .int st] => some (.bool (swapOk B id old st))
  | 108, [.rows B, .int id, .int now] => some (.rows (provedB B id now))
  | 115, [.rows B, .int id] => some (.int (knownE B id))
  | 105, [.rows l, .rows B, .int id] => some (.rows (publishL l B id))
  | 112, [.rows l, .rows B, .int id] => some (.rows (unlistL l B id))
  | _, _ => none

structure BagOb (ob : Objs) : Prop where
  f1 : ob.fmt 1 = .other
  c1 : ∀ v gs w D R, ob.cus 1 v gs w D R = BagR v gs w D R
  f2 : ob.fmt 2 = .list [.int .u64] false
  f3 : ob.fmt 3 = .list fiveK false
  fn : ∀ f, f ∈ [101, 103, 104, 105, 107, 108, 111, 112, 115] → ∀ us, ob.fn f us = fnBag f us

theorem enterB_length (B : List (List Int)) (id st now : Int) : (enterB B id st now).length ≤ B.length + 1 := by
  unfold enterB; split
  · omega
  · exact rput_len _ _ _
theorem swapB_length (B : List (List Int)) (id old st now : Int) : (swapB B id old st now).length ≤ B.length := by
  unfold swapB; split
  · split
    · rw [rset_length]; omega
    · omega
  · omega
theorem provedB_length (B : List (List Int)) (id now : Int) : (provedB B id now).length ≤ B.length := by
  unfold provedB; split
  · rw [rset_length]; omega
  · omega
theorem publishL_length (l B : List (List Int)) (id : Int) : (publishL l B id).length ≤ l.length + 1 := by
  unfold publishL; split
  · split <;> simp
  · omega
theorem unlistL_length (l B : List (List Int)) (id : Int) : (unlistL l B id).length ≤ l.length := by
  unfold unlistL; split
  · exact List.length_filter_le _ _
  · omega

theorem den1 {E : Env} {f : Nat} {a : Tm} {x u : U} (h1 : a.den E = some x) (hf : appF E.fn f [x] = some u) : (Tm.app f [a]).den E = some u := by
  simp only [Tm.den, dens, h1]; exact hf
theorem den2 {E : Env} {f : Nat} {a b : Tm} {x y u : U} (h1 : a.den E = some x) (h2 : b.den E = some y) (hf : appF E.fn f [x, y] = some u) : (Tm.app f [a, b]).den E = some u := by
  simp only [Tm.den, dens, h1, h2]; exact hf
theorem den3 {E : Env} {f : Nat} {a b c : Tm} {x y z u : U} (h1 : a.den E = some x) (h2 : b.den E = some y) (h3 : c.den E = some z) (hf : appF E.fn f [x, y, z] = some u) : (Tm.app f [a, b, c]).den E = some u := by
  simp only [Tm.den, dens, h1, h2, h3]; exact hf
theorem den4 {E : Env} {f : Nat} {a b c d : Tm} {x y z v u : U} (h1 : a.den E = some x) (h2 : b.den E = some y) (h3 : c.den E = some z) (h4 : d.den E = some v) (hf : appF E.fn f [x, y, z, v] = some u) : (Tm.app f [a, b, c, d]).den E = some u := by
  simp only [Tm.den, dens, h1, h2, h3, h4]; exact hf
theorem den5 {E : Env} {f : Nat} {a b c d e : Tm} {x y z v v' u : U} (h1 : a.den E = some x) (h2 : b.den E = some y) (h3 : c.den E = some z) (h4 : d.den E = some v) (h5 : e.den E = some v') (hf : appF E.fn f [x, y, z, v, v'] = some u) : (Tm.app f [a, b, c, d, e]).den E = some u := by
  simp only [Tm.den, dens, h1, h2, h3, h4, h5]; exact hf

/-- What a given function is, as a term. -/
theorem appF_int {fn : Nat → List U → Option U} {f : Nat} (hf : 6 ≤ f) {us : List U} {z : Int} (h : fn f us = some (.int z)) : appF fn f us = some (.int z) := by
  unfold appF
  split <;> first | omega | skip
  rw [h]
theorem appF_bool {fn : Nat → List U → Option U} {f : Nat} (hf : 6 ≤ f) {us : List U} {z : Bool} (h : fn f us = some (.bool z)) : appF fn f us = some (.bool z) := by
  unfold appF
  split <;> first | omega | skip
  rw [h]
theorem appF_rows {fn : Nat → List U → Option U} {f : Nat} (hf : 6 ≤ f) {us : List U} {l l0 : List (List Int)} (h : fn f (.rows l0 :: us) = some (.rows l)) (hl : l.length ≤ l0.length + f % 4) : appF fn f (.rows l0 :: us) = some (.rows l) := by
  unfold appF
  split <;> first | omega | skip
  rw [h]
  simp only
  split
  · rfl
  · first | rfl | rw [if_pos hl]

end Go.Proofs.YtbdnlaepeladbaaGreatDoor

namespace Go.Proofs.YtbdnlaepeladbaaGreatDoor
open Go.ChangeShapes Go.WideShapes Go.ChangeAt Go.RowKit Go.Eng

theorem upto0_of {S D : Nat → Prop} {w w' : World} (h : Upto S w w') (hs : ∀ c, S c → D c) : Upto0 D w w' :=
  ⟨h.os, h.tape, h.output, h.size, fun k hk hD => h.block k hk fun s => hD (hs k s)⟩
theorem upto0_below {D : Nat → Prop} {w w' : World} (h : Below w.heap.size w w') : Upto0 D w w' :=
  ⟨h.os, h.tape, h.output, h.size, fun k hk _ => h.block k hk⟩

/-- A result behind which the receiver is as it was, and nothing new is told. -/
theorem post_same {K : Fix} {E : Env} {s : Eng.Spec} {gs ts : List Tm} {v : Value} {w w' : World} {nv : Nat} {D R RO : Nat → Prop} {y : Value} (hD : ∀ c, D c → c < w.heap.size) (hRO : ∀ c, RO c → c < w.heap.size ∧ ¬ D c) (hR : ∀ c, R c → RO c)
    (hn : s.nn = 0) (hnews : s.news gs ts nv = []) (hvar : ∀ n, (E.var n).isSome → n < nv)
    (hy : VR E (s.res gs ts nv) y) (hrecv : ∀ κ, s.recv = some κ → ∃ gU, dens E (s.gs' gs ts nv) = some gU ∧ K.ob.obj κ v gU w' D R) (hu : Upto0 D w w') :
    SpecPost K E s gs ts v w nv D RO w' y [] D R (fun _ _ => False) (fun _ _ => False) where
  len := by rw [hn]; rfl
  res := VR.mono (ext_le hvar) _ _ hy
  recv := fun κ hκ => by
    obtain ⟨gU, h1, h2⟩ := hrecv κ hκ
    exact ⟨gU, dens_mono (ext_le hvar) _ _ h1, h2⟩
  news := fun j o hj => by rw [hnews] at hj; simp at hj
  upto := hu
  dd := fun c hc => ⟨.inl hc, Nat.lt_of_lt_of_le (hD c hc) hu.size⟩
  rr := fun c hc => ⟨.inl (hR c hc), Nat.lt_of_lt_of_le (hRO c (hR c hc)).1 hu.size, (hRO c (hR c hc)).2⟩
  dn := fun j c hc => hc.elim
  rn := fun j c hc => hc.elim

theorem u64n {z : Int} (h : (Lit.int .u64 z).wf = true) : ∃ n : Nat, z = n ∧ n < 18446744073709551616 := by
  rw [wf_bounds] at h
  simp only [IntKind.min, IntKind.max, IntKind.signed, IntKind.bits, Bool.false_eq_true, if_false] at h
  exact ⟨z.toNat, by omega, by omega⟩

variable {K : Fix}

theorem bag_open (hb : BagOb K.ob) {v : Value} {gU : List U} {w : World} {D R : Nat → Prop} (h : K.ob.obj 1 v gU w D R) : BagR v gU w D R := by
  unfold Objs.obj at h
  rw [hb.f1] at h
  simp only [hb.c1] at h
  exact h
theorem bag_obj (hb : BagOb K.ob) {v : Value} {gU : List U} {w : World} {D R : Nat → Prop} (h : BagR v gU w D R) : K.ob.obj 1 v gU w D R := by
  unfold Objs.obj
  rw [hb.f1]
  simp only [hb.c1]
  exact h

theorem dens_cons {E : Env} {gs : List Tm} {x : U} {us : List U} (h : dens E gs = some (x :: us)) : ∃ a l, gs = a :: l ∧ a.den E = some x ∧ dens E l = some us := by
  cases gs with
  | nil => simp [dens] at h
  | cons a l =>
    simp only [dens] at h
    split at h
    · rename_i p q h1 h2
      simp only [Option.some.injEq, List.cons.injEq] at h
      obtain ⟨rfl, rfl⟩ := h
      exact ⟨a, l, rfl, h1, h2⟩
    · cases h
theorem dens_nil {E : Env} {gs : List Tm} (h : dens E gs = some []) : gs = [] := by
  cases gs with
  | nil => rfl
  | cons a l =>
    simp only [dens] at h
    split at h
    · simp at h
    · cases h
theorem dens_two {E : Env} {gs : List Tm} {x y : U} (h : dens E gs = some [x, y]) : ∃ a b, gs = [a, b] ∧ a.den E = some x ∧ b.den E = some y := by
  obtain ⟨a, l, rfl, h1, h2⟩ := dens_cons h
  obtain ⟨b, l, rfl, h3, h4⟩ := dens_cons h2
  obtain rfl := dens_nil h4
  exact ⟨a, b, rfl, h1, h3⟩

def isZ (t : Tm) : Bool := beqT t (.int 0)
theorem isZ_eq {t : Tm} (h : isZ t = true) : t = .int 0 := beqT_eq _ _ h

/-! ### Load -/

def spLoad : Eng.Spec where
  f := 32
  recv := some 1
  args := [.int .u64]
  res := fun gs ts _ => match gs, ts with
    | [B, _], [id] => if isZ id then .lit (.tuple #[.int .u64 0, .bool false]) else .tuple [.tm (.int .u64) (.bin (.mget 0) B id), .tm .bool (.bin .mhas B id)]
    | _, _ => .top
  gs' := fun gs _ _ => gs
  news := fun _ _ _ => []
  nn := 0

theorem load_spec (hb : BagOb K.ob) : SpecOk Tryz.prog K spLoad := by
  intro E nv gs ts vs v xs w D R RO hfn hvar hrecv hD hRO hR hargs hneed
  obtain ⟨rfl, ⟨a, rfl⟩, gU, hg, ho⟩ := hrecv
  obtain ⟨b, m, L, es, ns, B, hv, rfl, hB⟩ := bag_open hb ho
  simp only [Value.pointer.injEq, Option.some.injEq] at hv
  subst hv
  obtain ⟨gB, gL, rfl, hgB, hgL⟩ := dens_two hg
  simp only [spLoad, ArgRs, ArgR] at hargs
  obtain ⟨ta, tb, x, r, rfl, ⟨t, z, rfl, hz, hzw, rfl⟩, ⟨rfl, rfl⟩, rfl⟩ := hargs
  have fin : ∀ {w' : World} {y : Value}, Below w.heap.size w w' → VR E (spLoad.res [gB, gL] [t] nv) y → SpecPost K E spLoad [gB, gL] [t] (.pointer (some ⟨b, 0, none⟩)) w nv D RO w' y [] D R (fun _ _ => False) (fun _ _ => False) := fun hbl hy =>
    post_same hD hRO hR rfl rfl hvar hy (fun κ hκ => by
      cases hκ
      refine ⟨_, hg, bag_obj hb ⟨b, m, L, es, ns, B, rfl, rfl, hB.same fun c hc => hbl.block c ?_⟩⟩
      rcases hc with hc | hc
      · exact hD c hc
      · exact (hRO c (hR c hc)).1) (upto0_below hbl)
  have hval : ∀ (wd : Int) (ok : Bool), (Lit.int .u64 wd).wf = true → wd = (((rfind z B).getD [])[0]?).getD 0 → ok = (rfind z B).isSome → VR E (spLoad.res [gB, gL] [t] nv) (.tuple #[.int .u64 wd, .bool ok]) := by
    intro wd ok hw h1 h2
    show VR E (if isZ t then .lit (.tuple #[.int .u64 0, .bool false]) else .tuple [.tm (.int .u64) (.bin (.mget 0) gB t), .tm .bool (.bin .mhas gB t)]) _
    split
    · rename_i h0
      obtain rfl := isZ_eq h0
      simp only [Tm.den, Option.some.injEq, U.int.injEq] at hz
      subst hz
      rw [hB.zero] at h1 h2
      simp only [VR]
      rw [h1, h2]; rfl
    · refine VRs.two ?_ ?_
      · simp only [VR]
        exact ⟨wd, by simp only [Tm.den, hgB, hz, TOp.den, h1], hw, rfl⟩
      · simp only [VR]
        exact ⟨ok, by simp only [Tm.den, hgB, hz, TOp.den, h2], rfl⟩
  show Calls Tryz.prog 32 #[.pointer (some ⟨b, 0, none⟩), .int .u64 z] w _
  cases hid : aget z es with
  | none =>
    refine (load_none hB.bag z hid).mono ?_
    rintro e w' ⟨rfl, hbl⟩
    have := hB.no z hid
    exact ⟨_, [], D, R, _, _, rfl, fin hbl (hval 0 false (by decide) (by rw [this]; rfl) (by rw [this]; rfl))⟩
  | some p =>
    obtain ⟨x, hx, hr⟩ := hB.ent z p hid
    refine (load_some hB.bag z hid hx).mono ?_
    rintro e w' ⟨rfl, hbl⟩
    refine ⟨_, [], D, R, _, _, rfl, fin hbl (hval x true ?_ (by rw [hr]; rfl) (by rw [hr]; rfl))⟩
    have hmem : (z :: rowP p x) ∈ B := by
      have := aget_mem (es := B.map rowPair) (i := z) (v := rowP p x) (by rw [aget_rows]; exact hr)
      obtain ⟨r, h1, h2⟩ := List.mem_map.1 this
      simp only [rowPair, Prod.mk.injEq] at h2
      have hw := hB.wf r h1
      cases r with
      | nil => simp [colWfs, fiveK] at hw
      | cons q r =>
        simp only [List.headD_cons, List.tail_cons] at h2
        obtain ⟨rfl, rfl⟩ := h2
        exact h1
    have hw := hB.wf _ hmem
    simp only [rowP, fiveK, colWfs, colWf, Bool.and_eq_true] at hw
    exact hw.2.1

end Go.Proofs.YtbdnlaepeladbaaGreatDoor

namespace Go.Proofs.YtbdnlaepeladbaaGreatDoor
open Go.ChangeShapes Go.WideShapes Go.ChangeAt Go.RowKit Go.Eng

variable {K : Fix}

theorem word_bag {w : World} {c x b m : Nat} {L : Value} {es : List (Int × Pl)} (hw : WordAt w c x) (hb : BagAt w b m L es) : b ≠ c ∧ m ≠ c := by
  unfold WordAt at hw
  constructor
  · rintro rfl
    have := hb.1
    rw [hw] at this; simp at this
  · rintro rfl
    obtain ⟨ms, c, h1, _⟩ := hb.2
    rw [hw] at h1; simp at h1

theorem rfind_rput (i k : Int) (zs : List Int) (l : List (List Int)) : rfind i (rput k zs l) = if i = k then some zs else rfind i l := by
  have := aget_rput i k zs l
  rw [aget_rows, aget_rows] at this
  exact this

theorem rfind_rset (i k : Int) (zs : List Int) : ∀ {l : List (List Int)}, (rfind k l).isSome → rfind i (rset k zs l) = if i = k then some zs else rfind i l
  | [], h => by simp [rfind] at h
  | r :: l, h => by
    unfold rset
    unfold rfind at h
    by_cases hk : k = r.headD 0
    · rw [if_pos hk]
      by_cases hi : i = k
      · simp [rfind, hi]
      · have : ¬ i = r.headD 0 := by rw [← hk]; exact hi
        have e1 : rfind i (r :: l) = rfind i l := by rw [rfind, if_neg this]
        rw [e1, rfind, List.headD_cons, if_neg hi, if_neg hi]
    · rw [if_neg hk] at h ⊢
      have := rfind_rset i k zs h
      unfold rfind
      rw [this]
      by_cases hi : i = k
      · subst hi
        rw [if_neg hk, if_pos rfl, if_pos rfl]
      · rw [if_neg hi, if_neg hi]

theorem rset_mem {k : Int} {zs r : List Int} : ∀ {l : List (List Int)}, r ∈ rset k zs l → r = k :: zs ∨ r ∈ l
  | [], h => by simp [rset] at h
  | q :: l, h => by
    unfold rset at h
    split at h
    · rcases List.mem_cons.1 h with h | h
      · exact .inl h
      · exact .inr (List.mem_cons_of_mem _ h)
    · rcases List.mem_cons.1 h with h | h
      · exact .inr (by rw [h]; exact List.mem_cons_self ..)
      · rcases rset_mem h with h | h
        · exact .inl h
        · exact .inr (List.mem_cons_of_mem _ h)

theorem rset_sorted {k : Int} {zs : List Int} {l : List (List Int)} (h : SortedR l) (hk : (rfind k l).isSome) : SortedR (rset k zs l) := by
  rw [rset_rput h hk]; exact rput_sorted k zs h

/-- An entry's row is among the rows. -/
theorem BagI.mem {b m : Nat} {L : Value} {es : List (Int × Pl)} {ns : List Int} {B : List (List Int)} {w : World} {D R : Nat → Prop} (h : BagI b m L es ns B w D R) {z : Int} {zs : List Int} (hr : rfind z B = some zs) : (z :: zs) ∈ B ∧ colWfs fiveK (z :: zs) = true := by
  have := aget_mem (es := B.map rowPair) (i := z) (v := zs) (by rw [aget_rows]; exact hr)
  obtain ⟨r, h1, h2⟩ := List.mem_map.1 this
  simp only [rowPair, Prod.mk.injEq] at h2
  have hw := h.wf r h1
  cases r with
  | nil => simp [colWfs, fiveK] at hw
  | cons q r =>
    simp only [List.headD_cons, List.tail_cons] at h2
    obtain ⟨rfl, rfl⟩ := h2
    exact ⟨h1, hw⟩

/-- A result behind which the receiver is told anew. -/
theorem post_new {E : Env} {s : Eng.Spec} {gs ts : List Tm} {v : Value} {w w' : World} {nv : Nat} {D RO D' R' : Nat → Prop} {y : Value}
    (hn : s.nn = 0) (hnews : s.news gs ts nv = []) (hvar : ∀ n, (E.var n).isSome → n < nv)
    (hy : VR E (s.res gs ts nv) y) (hrecv : ∀ κ, s.recv = some κ → ∃ gU, dens E (s.gs' gs ts nv) = some gU ∧ K.ob.obj κ v gU w' D' R') (hu : Upto0 D w w')
    (hdd : ∀ c, D' c → (D c ∨ w.heap.size ≤ c) ∧ c < w'.heap.size) (hrr : ∀ c, R' c → (RO c ∨ w.heap.size ≤ c) ∧ c < w'.heap.size ∧ ¬ D' c) :
    SpecPost K E s gs ts v w nv D RO w' y [] D' R' (fun _ _ => False) (fun _ _ => False) where
  len := by rw [hn]; rfl
  res := VR.mono (ext_le hvar) _ _ hy
  recv := fun κ hκ => by
    obtain ⟨gU, h1, h2⟩ := hrecv κ hκ
    exact ⟨gU, dens_mono (ext_le hvar) _ _ h1, h2⟩
  news := fun j o hj => by rw [hnews] at hj; simp at hj
  upto := hu
  dd := hdd
  rr := hrr
  dn := fun j c hc => hc.elim
  rn := fun j c hc => hc.elim

theorem vr_int {E : Env} {k : IntKind} {t : Tm} {z : Int} (h : t.den E = some (.int z)) (hw : (Lit.int k z).wf = true) : VR E (.tm (.int k) t) (.int k z) := by
  simp only [VR]; exact ⟨z, h, hw, rfl⟩
theorem vr_bool {E : Env} {t : Tm} {z : Bool} (h : t.den E = some (.bool z)) : VR E (.tm .bool t) (.bool z) := by
  simp only [VR]; exact ⟨z, h, rfl⟩

/-! ### Enter -/

def spEnter : Eng.Spec where
  f := 41
  recv := some 1
  args := [.int .u64, .int .i64, .int .u64]
  res := fun gs ts _ => match gs, ts with
    | [B, _], [id, st, _] => .tm (.int .i64) (.app 103 [B, id, st])
    | _, _ => .top
  gs' := fun gs ts _ => match gs, ts with
    | [B, L], [id, st, now] => [.app 101 [B, id, st, now], L]
    | gs, _ => gs
  news := fun _ _ _ => []
  nn := 0

theorem enter_spec (hb : BagOb K.ob) : SpecOk Tryz.prog K spEnter := by
  intro E nv gs ts vs v xs w D R RO hfn hvar hrecv hD hRO hR hargs hneed
  obtain ⟨rfl, ⟨a, rfl⟩, gU, hg, ho⟩ := hrecv
  obtain ⟨b, m, L, es, ns, B, hv, rfl, hB⟩ := bag_open hb ho
  simp only [Value.pointer.injEq, Option.some.injEq] at hv
  subst hv
  obtain ⟨gB, gL, rfl, hgB, hgL⟩ := dens_two hg
  simp only [spEnter, ArgRs, ArgR] at hargs
  obtain ⟨_, _, _, _, rfl, ⟨t1, id, rfl, h1, w1, rfl⟩, ⟨_, _, _, _, rfl, ⟨t2, st, rfl, h2, w2, rfl⟩, ⟨_, _, _, _, rfl, ⟨t3, now0, rfl, h3, w3, rfl⟩, ⟨rfl, rfl⟩, rfl⟩, rfl⟩, rfl⟩ := hargs
  obtain ⟨now, rfl, hnow⟩ := u64n w3
  have dE : (Tm.app 103 [gB, t1, t2]).den E = some (.int (enterE B id st)) := den3 hgB h1 h2 (appF_int (by decide) (by rw [hfn, hb.fn 103 (by decide)]; rfl))
  have dB : (Tm.app 101 [gB, t1, t2, t3]).den E = some (.rows (enterB B id st now)) := den4 hgB h1 h2 h3 (appF_rows (by decide) (by rw [hfn, hb.fn 101 (by decide)]; rfl) (enterB_length _ _ _ _))
  have stay : ∀ {w' : World} {e : Int}, Below w.heap.size w w' → enterE B id st = e → enterB B id st now = B → (Lit.int .i64 e).wf = true → SpecPost K E spEnter [gB, gL] [t1, t2, t3] (.pointer (some ⟨b, 0, none⟩)) w nv D RO w' (.int .i64 e) [] D R (fun _ _ => False) (fun _ _ => False) := fun hbl he hBB hw =>
    post_same hD hRO hR rfl rfl hvar (by show VR E (.tm (.int .i64) (.app 103 [gB, t1, t2])) _; exact vr_int (by rw [dE, he]) hw) (fun κ hκ => by
      cases hκ
      refine ⟨[.rows B, .rows (oneRows ns)], ?_, bag_obj hb ⟨b, m, L, es, ns, B, rfl, rfl, hB.same fun c hc => hbl.block c ?_⟩⟩
      · show dens E [.app 101 [gB, t1, t2, t3], gL] = _
        simp only [dens, dB, hgL, hBB]
      rcases hc with hc | hc
      · exact hD c hc
      · exact (hRO c (hR c hc)).1) (upto0_below hbl)
  show Calls Tryz.prog 41 #[.pointer (some ⟨b, 0, none⟩), .int .u64 id, .int .i64 st, .int .u64 (now : Int)] w _
  by_cases hbad : id = 0 ∨ st < 0 ∨ 3 < st
  · refine (enter_range hB.bag id st now hbad).mono ?_
    rintro e w' ⟨rfl, hbl⟩
    refine ⟨_, [], D, R, _, _, rfl, stay hbl (by unfold enterE; rw [if_pos hbad]) ?_ (by decide)⟩
    unfold enterB
    rw [if_pos]
    rcases hbad with h | h | h
    · exact .inl h
    · exact .inr (.inl h)
    · exact .inr (.inr (.inl h))
  · have hi0 : ¬ id = 0 := fun e => hbad (.inl e)
    have hi : (id == 0) = false := by simpa using hi0
    have h0 : ¬ st < 0 := fun e => hbad (.inr (.inl e))
    have h3' : ¬ 3 < st := fun e => hbad (.inr (.inr e))
    cases hid : aget id es with
    | some p =>
      obtain ⟨x, hx, hr⟩ := hB.ent id p hid
      refine (enter_twice hB.bag id st now hid hi h0 h3').mono ?_
      rintro e w' ⟨rfl, hbl⟩
      exact ⟨_, [], D, R, _, _, rfl, stay hbl (by unfold enterE; rw [if_neg hbad, if_pos (by rw [hr]; rfl)]) (by unfold enterB; rw [if_pos (.inr (.inr (.inr (by rw [hr]; rfl))))]) (by decide)⟩
    | none =>
      have hr := hB.no id hid
      obtain ⟨s, rfl⟩ : ∃ s : Nat, st = s := ⟨st.toNat, by omega⟩
      refine (enter_new hB.bag hB.bm id hid hi s (by omega) now).mono ?_
      rintro e w' ⟨rfl, c, k1, k2, k3, hu, hw, hbag⟩
      have hEB : enterB B id s now = rput id [(s : Int), now, now, now] B := by
        unfold enterB
        rw [if_neg]
        rintro (h | h | h | h)
        · exact hi0 h
        · exact h0 h
        · exact h3' h
        · rw [hr] at h; cases h
      have hEE : enterE B id s = 0 := by unfold enterE; rw [if_neg hbad, if_neg (by rw [hr]; simp)]
      have hmD : ∀ c, R c → c ≠ m := fun c hc e => (hRO c (hR c hc)).2 (e ▸ hB.Dm)
      have hkeep : ∀ k, k < w.heap.size → k ≠ m → w'.heap[k]? = w.heap[k]? := fun k hk hne => hu.block k hk hne
      refine ⟨_, [], fun k => D k ∨ k = c, R, _, _, rfl, post_new rfl rfl hvar (by show VR E (.tm (.int .i64) (.app 103 [gB, t1, t2])) _; exact vr_int (by rw [dE, hEE]) (by decide)) (fun κ hκ => ?_) (upto0_of hu fun k hk => hk ▸ hB.Dm) (fun k hk => ?_) (fun k hk => ?_)⟩
      · cases hκ
        refine ⟨[.rows (enterB B id s now), .rows (oneRows ns)], ?_, bag_obj hb ⟨b, m, L, aput id ⟨c, now, now, now⟩ es, ns, _, rfl, rfl, ?_⟩⟩
        · show dens E [.app 101 [gB, t1, t2, t3], gL] = _
          simp only [dens, dB, hgL]
        · rw [hEB]
          refine ⟨hbag, hB.lst.same fun g o n cc e => hkeep g ?_ ?_, hB.bm, rput_sorted _ _ hB.srt, hB.keys.put _ _, fun i hi' => ?_, fun i p hp => ?_, fun i j p q hp hq hpq => ?_, fun r hr' => ?_, hB.nodup, hB.nwf, ?_, .inl hB.Db, .inl hB.Dm, fun i p hp => ?_, hB.RL⟩
          · exact (hRO g (hR g (hB.RL g o n cc e))).1
          · exact hmD g (hB.RL g o n cc e)
          · rw [aget_aput'] at hi'
            rw [rfind_rput]
            split at hi'
            · cases hi'
            · rename_i hne; rw [if_neg hne]; exact hB.no i hi'
          · rw [aget_aput'] at hp
            rw [rfind_rput]
            split at hp
            · rename_i he
              obtain rfl := Option.some.inj hp
              exact ⟨s, hw, by rw [if_pos he]; rfl⟩
            · rename_i hne
              obtain ⟨x, hx, hx2⟩ := hB.ent i p hp
              exact ⟨x, (hkeep p.c hx.lt (word_bag hx hB.bag).2.symm).trans hx, by rw [if_neg hne]; exact hx2⟩
          · rw [aget_aput'] at hp hq
            split at hp <;> split at hq
            · rename_i a1 a2; rw [a1, a2]
            · obtain rfl := Option.some.inj hp
              obtain ⟨x, hx, _⟩ := hB.ent j q hq
              have := hx.lt
              simp only at hpq
              omega
            · obtain rfl := Option.some.inj hq
              obtain ⟨x, hx, _⟩ := hB.ent i p hp
              have := hx.lt
              simp only at hpq
              omega
            · exact hB.inj i j p q hp hq hpq
          · rcases rput_head _ _ hr' with rfl | hr'
            · simp only [fiveK, colWfs, colWf, w1, w3, Bool.true_and, Bool.and_true]
              rw [wf_bounds]
              simp only [IntKind.min, IntKind.max, IntKind.signed, IntKind.bits, Bool.false_eq_true, if_false]
              omega
            · exact hB.wf r hr'
          · rw [rfind_rput, if_neg (fun e => hi0 e.symm)]; exact hB.zero
          · rw [aget_aput'] at hp
            split at hp
            · obtain rfl := Option.some.inj hp; exact .inr rfl
            · exact .inl (hB.Dc i p hp)
      · rcases hk with hk | rfl
        · exact ⟨.inl hk, Nat.lt_of_lt_of_le (hD k hk) hu.size⟩
        · exact ⟨.inr k1, hw.lt⟩
      · refine ⟨.inl (hR k hk), Nat.lt_of_lt_of_le (hRO k (hR k hk)).1 hu.size, ?_⟩
        rintro (h | rfl)
        · exact (hRO k (hR k hk)).2 h
        · have := (hRO k (hR k hk)).1
          omega

end Go.Proofs.YtbdnlaepeladbaaGreatDoor

namespace Go.Proofs.YtbdnlaepeladbaaGreatDoor
open Go.ChangeShapes Go.WideShapes Go.ChangeAt Go.RowKit Go.Eng

variable {K : Fix}

/-- One entry is another one, in the same cell. -/
theorem BagI.upd {b m : Nat} {L : Value} {es es' : List (Int × Pl)} {ns : List Int} {B : List (List Int)} {w w' : World} {D R : Nat → Prop} (h : BagI b m L es ns B w D R) {id : Int} {p p' : Pl} (hid : aget id es = some p) (hc : p'.c = p.c)
    (he : ∀ i, aget i es' = if i = id then some p' else aget i es) (hk : Keys1 es') (hbag : BagAt w' b m L es') {r : Nat} (hw : WordAt w' p.c r) (hwf : colWfs fiveK (id :: rowP p' r) = true)
    (hu : ∀ k, k < w.heap.size → k ≠ p.c → k ≠ m → w'.heap[k]? = w.heap[k]?) (hR : ∀ c, R c → c < w.heap.size ∧ ¬ D c) : BagI b m L es' ns (rset id (rowP p' r) B) w' D R := by
  obtain ⟨x, hx, hr⟩ := h.ent id p hid
  have hsome : (rfind id B).isSome := by rw [hr]; rfl
  refine ⟨hbag, h.lst.same fun g o n cc e => hu g ?_ ?_ ?_, h.bm, rset_sorted h.srt hsome, hk, fun i hi => ?_, fun i q hq => ?_, fun i j q q' hq hq' hqq => ?_, fun r' hr' => ?_, h.nodup, h.nwf, ?_, h.Db, h.Dm, fun i q hq => ?_, h.RL⟩
  · exact (hR g (h.RL g o n cc e)).1
  · intro e'
    exact (hR g (h.RL g o n cc e)).2 (e' ▸ h.Dc id p hid)
  · intro e'
    exact (hR g (h.RL g o n cc e)).2 (e' ▸ h.Dm)
  · rw [he] at hi
    rw [rfind_rset _ _ _ hsome]
    split at hi
    · cases hi
    · rename_i hne; rw [if_neg hne]; exact h.no i hi
  · rw [he] at hq
    rw [rfind_rset _ _ _ hsome]
    split at hq
    · rename_i hii
      obtain rfl := Option.some.inj hq
      exact ⟨r, by rw [hc]; exact hw, by rw [if_pos hii]⟩
    · rename_i hne
      obtain ⟨y, hy, hy2⟩ := h.ent i q hq
      exact ⟨y, (hu q.c hy.lt (fun e => hne (h.inj i id q p hq hid e)) (word_bag hy h.bag).2.symm).trans hy, by rw [if_neg hne]; exact hy2⟩
  · rw [he] at hq hq'
    split at hq <;> split at hq'
    · rename_i a1 a2; rw [a1, a2]
    · rename_i a1 a2
      obtain rfl := Option.some.inj hq
      rw [hc] at hqq
      rw [a1]; exact h.inj id j p q' hid hq' hqq
    · rename_i a1 a2
      obtain rfl := Option.some.inj hq'
      rw [hc] at hqq
      rw [a2]; exact h.inj i id q p hq hid hqq
    · exact h.inj i j q q' hq hq' hqq
  · rcases rset_mem hr' with rfl | hr'
    · exact hwf
    · exact h.wf r' hr'
  · rw [rfind_rset _ _ _ hsome, if_neg]
    · exact h.zero
    · intro e
      rw [← e, h.zero] at hsome; cases hsome
  · rw [he] at hq
    split at hq
    · obtain rfl := Option.some.inj hq
      rw [hc]; exact h.Dc id p hid
    · exact h.Dc i q hq

/-! ### New -/

def spNew : Eng.Spec where
  f := 30
  recv := none
  args := []
  res := fun _ _ nv => .tm .ptr (.var nv)
  gs' := fun _ _ _ => []
  news := fun _ _ nv => [⟨1, .var nv, [.rows [], .rows []]⟩]
  nn := 1

theorem ext_new {E : Env} {nv : Nat} {u : U} {us : List U} : (Tm.var nv).den (E.ext nv (u :: us)) = some u := by
  simp [Tm.den, Env.ext]

theorem new_spec (hb : BagOb K.ob) : SpecOk Tryz.prog K spNew := by
  intro E nv gs ts vs v xs w D R RO hfn hvar hrecv hD hRO hR hargs hneed
  obtain ⟨rfl, rfl, hD0⟩ := hrecv
  simp only [spNew, ArgRs] at hargs
  obtain ⟨rfl, rfl⟩ := hargs
  show Calls Tryz.prog 30 #[] w _
  refine (new_calls w).mono ?_
  rintro e w' ⟨b, m, rfl, hb1, hm1, hbm, hbag, hbl⟩
  refine ⟨_, [.val (.pointer (some ⟨b, 0, none⟩))], fun _ => False, fun _ => False, fun j c => j = 0 ∧ (c = b ∨ c = m), fun _ _ => False, rfl, ⟨rfl, ?_, fun κ hκ => (by cases hκ), fun j o hj => ?_, upto0_below hbl, fun c hc => hc.elim, fun c hc => hc.elim, fun j c hc => ⟨?_, ?_, fun h => h, fun h => h, fun k hk hc' => hk (hc'.1.trans hc.1.symm)⟩, fun j c hc => hc.elim⟩⟩
  · show VR _ (.tm .ptr (.var nv)) _
    simp only [VR]
    exact ⟨_, ext_new, rfl⟩
  · have hj0 : j = 0 := by
      have := (List.getElem?_eq_some_iff.1 hj).1
      simp [spNew] at this; omega
    subst hj0
    simp only [spNew, List.getElem?_cons_zero, Option.some.injEq] at hj
    subst hj
    refine ⟨_, [.rows [], .rows []], ext_new, rfl, bag_obj hb ⟨b, m, _, [], [], [], rfl, rfl, hbag, .inl ⟨rfl, rfl⟩, hbm, .nil, .nil, fun _ _ => rfl, fun i p h => by simp [aget] at h, fun i j p q h => by simp [aget] at h, by simp, .nil, by simp, rfl, ⟨rfl, .inl rfl⟩, ⟨rfl, .inr rfl⟩, fun i p h => by simp [aget] at h, fun g o n c h => by cases h⟩⟩
  · rcases hc.2 with rfl | rfl
    · exact hb1
    · exact hm1
  · rcases hc.2 with rfl | rfl
    · exact hbag.lt.1
    · exact hbag.lt.2

/-! ### Swap -/

def spSwap : Eng.Spec where
  f := 33
  recv := some 1
  args := [.int .u64, .int .u64, .int .i64, .int .u64]
  res := fun gs ts _ => match gs, ts with
    | [B, _], [id, old, st, _] => .tuple [.tm (.int .u64) (.app 107 [B, id, old, st]), .tm .bool (.app 111 [B, id, old, st])]
    | _, _ => .top
  gs' := fun gs ts _ => match gs, ts with
    | [B, L], [id, old, st, now] => [.app 104 [B, id, old, st, now], L]
    | gs, _ => gs
  news := fun _ _ _ => []
  nn := 0

theorem nat_wf {n : Nat} (h : n < 18446744073709551616) : (Lit.int .u64 (n : Int)).wf = true := by
  rw [wf_bounds]
  simp only [IntKind.min, IntKind.max, IntKind.signed, IntKind.bits, Bool.false_eq_true, if_false]
  omega

theorem swap_spec (hb : BagOb K.ob) : SpecOk Tryz.prog K spSwap := by
  intro E nv gs ts vs v xs w D R RO hfn hvar hrecv hD hRO hR hargs hneed
  obtain ⟨rfl, ⟨a, rfl⟩, gU, hg, ho⟩ := hrecv
  obtain ⟨b, m, L, es, ns, B, hv, rfl, hB⟩ := bag_open hb ho
  simp only [Value.pointer.injEq, Option.some.injEq] at hv
  subst hv
  obtain ⟨gB, gL, rfl, hgB, hgL⟩ := dens_two hg
  simp only [spSwap, ArgRs, ArgR] at hargs
  obtain ⟨_, _, _, _, rfl, ⟨t1, id, rfl, h1, w1, rfl⟩, ⟨_, _, _, _, rfl, ⟨t2, n0, rfl, h2, w2, rfl⟩, ⟨_, _, _, _, rfl, ⟨t3, st, rfl, h3, w3, rfl⟩, ⟨_, _, _, _, rfl, ⟨t4, now0, rfl, h4, w4, rfl⟩, ⟨rfl, rfl⟩, rfl⟩, rfl⟩, rfl⟩, rfl⟩ := hargs
  obtain ⟨now, rfl, hnow⟩ := u64n w4
  obtain ⟨n, rfl, hn⟩ := u64n w2
  have dW : (Tm.app 107 [gB, t1, t2, t3]).den E = some (.int (swapW B id n st)) := den4 hgB h1 h2 h3 (appF_int (by decide) (by rw [hfn, hb.fn 107 (by decide)]; rfl))
  have dO : (Tm.app 111 [gB, t1, t2, t3]).den E = some (.bool (swapOk B id n st)) := den4 hgB h1 h2 h3 (appF_bool (by decide) (by rw [hfn, hb.fn 111 (by decide)]; rfl))
  have dB : (Tm.app 104 [gB, t1, t2, t3, t4]).den E = some (.rows (swapB B id n st now)) := den5 hgB h1 h2 h3 h4 (appF_rows (by decide) (by rw [hfn, hb.fn 104 (by decide)]; rfl) (swapB_length _ _ _ _ _))
  have hRD : ∀ c, R c → c < w.heap.size ∧ ¬ D c := fun c hc => hRO c (hR c hc)
  have fin : ∀ {w' : World} {x : Nat} {ok : Bool} {es' : List (Int × Pl)}, Upto0 D w w' → swapW B id n st = x → swapOk B id n st = ok → x < 18446744073709551616 → BagI b m L es' ns (swapB B id n st now) w' D R →
      SpecPost K E spSwap [gB, gL] [t1, t2, t3, t4] (.pointer (some ⟨b, 0, none⟩)) w nv D RO w' (.tuple #[.int .u64 x, .bool ok]) [] D R (fun _ _ => False) (fun _ _ => False) := by
    intro w' x ok es' hu e1 e2 hx hI
    refine post_same hD hRO hR rfl rfl hvar ?_ (fun κ hκ => ?_) hu
    · show VR E (.tuple [.tm (.int .u64) (.app 107 [gB, t1, t2, t3]), .tm .bool (.app 111 [gB, t1, t2, t3])]) _
      exact VRs.two (vr_int (by rw [dW, e1]) (nat_wf hx)) (vr_bool (by rw [dO, e2]))
    · cases hκ
      refine ⟨[.rows (swapB B id n st now), .rows (oneRows ns)], ?_, bag_obj hb ⟨b, m, L, es', ns, _, rfl, rfl, hI⟩⟩
      show dens E [.app 104 [gB, t1, t2, t3, t4], gL] = _
      simp only [dens, dB, hgL]
  have hsame : ∀ {w' : World}, Below w.heap.size w w' → BagI b m L es ns B w' D R := fun hbl => hB.same fun c hc => hbl.block c (by
    rcases hc with hc | hc
    · exact hD c hc
    · exact (hRD c hc).1)
  show Calls Tryz.prog 33 #[.pointer (some ⟨b, 0, none⟩), .int .u64 id, .int .u64 (n : Int), .int .i64 st, .int .u64 (now : Int)] w _
  cases hid : aget id es with
  | none =>
    have hr := hB.no id hid
    refine (bag_swap_none hB.bag id hid n hn st now).mono ?_
    rintro e w' ⟨rfl, hbl⟩
    have e2 : swapOk B id n st = false := by unfold swapOk; rw [hr]; rfl
    refine ⟨_, [], D, R, _, _, rfl, fin (x := 0) (es' := es) (upto0_below hbl) (by unfold swapW wordR; rw [e2, hr]; rfl) e2 (by decide) ?_⟩
    have : swapB B id n st now = B := by unfold swapB; rw [hr]
    rw [this]; exact hsame hbl
  | some p =>
    obtain ⟨x, hx, hr⟩ := hB.ent id p hid
    have hmem := (hB.mem hr).2
    simp only [rowP, fiveK, colWfs, colWf, Bool.and_eq_true] at hmem
    obtain ⟨_, hx64, hb64, hs64, hp64, _⟩ := hmem
    obtain ⟨x', hx', hxlt⟩ := u64n hx64
    have hxlt' : x < 18446744073709551616 := by omega
    have hwR : wordR B id = x := by unfold wordR; rw [hr]; rfl
    have hok : swapOk B id n st = (mayB ((n % 4 : Nat) : Int) st && decide (x = n)) := by
      unfold swapOk
      rw [hwR, hr]
      have : ((n : Int) % 4) = ((n % 4 : Nat) : Int) := by omega
      rw [this, Option.isSome_some, Bool.true_and]
      congr 1
      by_cases e : x = n
      · simp [e]
      · simp only [e, decide_false, beq_eq_false_iff_ne]; omega
    cases hN : swapN x n st with
    | none =>
      have e2 : swapOk B id n st = false := by
        rw [hok]
        unfold swapN at hN
        split at hN
        · cases hN
        · rename_i hc
          cases hm : mayB ((n % 4 : Nat) : Int) st with
          | false => rfl
          | true => simpa using fun e => hc ⟨hm, e⟩
      refine (bag_swap_no hB.bag id hid hx n hn st now hN).mono ?_
      rintro e w' ⟨rfl, hbl⟩
      refine ⟨_, [], D, R, _, _, rfl, fin (x := x) (es' := es) (upto0_below hbl) (by unfold swapW; rw [e2, hwR]; rfl) e2 hxlt' ?_⟩
      have : swapB B id n st now = B := by unfold swapB; rw [hr]; simp only [rowP, e2]; rfl
      rw [this]; exact hsame hbl
    | some r =>
      have e2 : swapOk B id n st = true := by
        rw [hok]
        unfold swapN at hN
        split at hN
        · rename_i hc
          rw [hc.1, hc.2]; simp
        · cases hN
      have hrr : r = toN n st ∧ mayB ((n % 4 : Nat) : Int) st = true := by
        unfold swapN at hN
        split at hN
        · rename_i hc; exact ⟨(Option.some.inj hN).symm, hc.1⟩
        · cases hN
      have hrlt : r < 18446744073709551616 := by
        rw [hrr.1]
        have := may_range hrr.2
        unfold toN
        exact ofN_lt (by omega)
      have e1 : swapW B id n st = (r : Int) := by unfold swapW; rw [e2, hrr.1]; simp
      by_cases h0 : st = 0
      · subst h0
        have ⟨hne1, hne2⟩ := word_bag hx hB.bag
        refine (bag_swap_free hB.bag id hid hx hne1 hne2 hB.bm n hn now hN).mono ?_
        rintro e w' ⟨rfl, hu, hw, hbag⟩
        have hI := hB.upd (p' := { p with since := now }) (w' := w') hid rfl (es' := aput id { p with since := now } es) (fun i => by rw [aget_aput']) (hB.keys.put _ _) hbag hw (by simp only [rowP, fiveK, colWfs, colWf, w1, nat_wf hrlt, hb64, w4, hp64, Bool.and_self]) (fun k hk k1 k2 => hu.block k hk (by rintro (h | h); exact k1 h; exact k2 h)) hRD
        refine ⟨_, [], D, R, _, _, rfl, fin (x := r) (upto0_of hu fun k hk => ?_) e1 e2 hrlt (es' := aput id { p with since := now } es) ?_⟩
        · rcases hk with rfl | rfl
          · exact hB.Dc id p hid
          · exact hB.Dm
        · have : swapB B id n 0 now = rset id (rowP { p with since := now } r) B := by unfold swapB; rw [hr]; simp only [rowP, e2, if_true, hrr.1, Int.toNat_natCast]
          rw [this]; exact hI
      · have h0' : (st == 0) = false := by simpa using h0
        refine (bag_swap_on hB.bag id hid hx n hn st now hN h0').mono ?_
        rintro e w' ⟨rfl, hu, hw⟩
        have hbag : BagAt w' b m L es := hB.bag.upto hu (word_bag hx hB.bag).1 (word_bag hx hB.bag).2
        have hI := hB.upd (p' := p) (w' := w') hid rfl (es' := es) (fun i => by split; rename_i h; rw [h, hid]; rfl) hB.keys hbag hw (by simp only [rowP, fiveK, colWfs, colWf, w1, nat_wf hrlt, hb64, hs64, hp64, Bool.and_self]) (fun k hk k1 k2 => hu.block k hk k1) hRD
        refine ⟨_, [], D, R, _, _, rfl, fin (x := r) (upto0_of hu fun k hk => hk ▸ hB.Dc id p hid) e1 e2 hrlt (es' := es) ?_⟩
        have : swapB B id n st now = rset id (rowP p r) B := by unfold swapB; rw [hr]; simp only [rowP, e2, if_true, hrr.1, h0, if_false, Int.toNat_natCast]
        rw [this]; exact hI

end Go.Proofs.YtbdnlaepeladbaaGreatDoor

namespace Go.Proofs.YtbdnlaepeladbaaGreatDoor
open Go.ChangeShapes Go.WideShapes Go.ChangeAt Go.RowKit Go.Eng

variable {K : Fix}

theorem lookup_bag1 {w : World} {m : Nat} {es : List (Int × Pl)} (h : MapIs .u64 plV w m es) (id : Int) :
    (Instr.lookup 158 (.map (some m)) (.int .u64 id) false).run Tryz.prog w = .ok (got (aget id es)) w := by
  have := run_lookup_ents (P := Tryz.prog) Tryz.underlying158 Tryz.underlying22 Tryz.zeroValue166 h id false
  exact this

set_option maxHeartbeats 1000000 in
set_option maxRecDepth 1000000 in
theorem proved_some {w : World} {b m : Nat} {L : Value} {es : List (Int × Pl)} (h : BagAt w b m L es) (hbm : b ≠ m) (id : Int) {p : Pl} (hid : aget id es = some p) (now : Nat) :
    Calls Tryz.prog 36 #[.pointer (some ⟨b, 0, none⟩), .int .u64 id, .int .u64 now] w fun e w' => e = .returned (.int .i64 0) ∧ Upto (· = m) w w' ∧ BagAt w' b m L (aput id { p with proved := now } es) := by
  have hk := known_calls h id
  rw [hid] at hk
  change Calls Tryz.prog 97 _ w fun e w' => e = .returned (.int .i64 0) ∧ Below w.heap.size w w' at hk
  have W1 : Aside (∀ {v : World}, Below w.heap.size w v → BagAt v b m L es) := fun hv => h.below hv h.lt.1 h.lt.2
  have HL : Aside (∀ {v : World}, BagAt v b m L es → Sem.run Tryz.prog (Instr.lookup 158 (.map (some m)) (.int .u64 id) false) v = .ok (.agg #[.pointer (some ⟨p.c, 0, none⟩), .int .u64 p.born, .int .u64 p.since, .int .u64 p.proved]) v) := fun hv => by
    have := lookup_bag1 hv.2.is id
    rw [hid] at this
    exact this
  go_enter Tryz.func36, Tryz.ntmps36
  go_wp2_with (go_at_call 97; with_reducible refine hk.mono ?_; rintro e w1 ⟨rfl, b1⟩; have bag1 := W1.out b1; have c1 := bag1.cell; have hl := HL.out bag1)
  obtain ⟨w3, hw3⟩ : ∃ w3, w3 = w1.alloc (.cells #[.pointer (some ⟨p.c, 0, none⟩), .int .u64 p.born, .int .u64 p.since, .int .u64 now] 166) := ⟨_, rfl⟩
  have u3 : Upto (· = m) w w3 := by rw [hw3]; exact (Upto.of_below b1).alloc _
  have bag3 : BagAt w3 b m L es := W1.out (by rw [hw3]; exact b1.alloc b1.size _)
  have row3 : w3.heap[w1.heap.size]? = some (.cells #[.pointer (some ⟨p.c, 0, none⟩), .int .u64 p.born, .int .u64 p.since, .int .u64 now] 166 (0, 0)) := by rw [hw3]; exact (Go.MapKept.heap_alloc w1 _).1
  rw [← hw3]
  clear hw3 b1 hl c1 bag1 hk HL W1
  generalize w1.heap.size = Z at row3 ⊢
  have c0 : w3.cell? ⟨Z, 0, none⟩ = some (.pointer (some ⟨p.c, 0, none⟩)) := by simp [World.cell?, row3]
  have c1 : w3.cell? ⟨Z, 1, none⟩ = some (.int .u64 p.born) := by simp [World.cell?, row3]
  have c2 : w3.cell? ⟨Z, 2, none⟩ = some (.int .u64 p.since) := by simp [World.cell?, row3]
  have c3 : w3.cell? ⟨Z, 3, none⟩ = some (.int .u64 now) := by simp [World.cell?, row3]
  have cb := bag3.cell
  have bag3d : MapSt .u64 plV w3.drew m es := bag3.2
  obtain ⟨ms, ck, hmu, hents, hstm⟩ := run_mapUpdate_st (P := Tryz.prog) Tryz.underlying158 Tryz.underlying22 bag3d id { p with proved := now }
  change Sem.run Tryz.prog (Instr.mapUpdate 158 (.map (some m)) (.int .u64 id) (.agg #[.pointer (some ⟨p.c, 0, none⟩), .int .u64 p.born, .int .u64 p.since, .int .u64 now])) w3.drew = _ at hmu
  obtain ⟨w5, hw5⟩ : ∃ w5, w5 = { w3.drew with heap := w3.drew.heap.setIfInBounds m (.map ms.toArray ck) } := ⟨_, rfl⟩
  rw [← hw5] at hmu
  have fin : Upto (· = m) w w5 ∧ BagAt w5 b m L (aput id { p with proved := now } es) := by
    have hm3 : m < w3.heap.size := bag3.lt.2
    rw [hw5]
    refine ⟨u3.drew.put rfl _, ?_, MapSt.put hm3 hents hstm⟩
    show (w3.heap.setIfInBounds m _)[b]? = _
    rw [Array.getElem?_setIfInBounds, if_neg (fun e => hbm e.symm)]; exact bag3.1
  clear hw5 hents hstm bag3d bag3 u3 row3 h
  refine wp_region_still_tail 6 (by kernel_rfl) (by kernel_rfl) ?_
  simp only [List.take_succ_cons, List.take_zero, List.drop_succ_cons, List.drop_zero]
  still_step
  still_step
  still_step
  still_step
  still_step
  still_step
  refine wpStill_nil ?_
  change wpList _ _ _ _ _ w3.drew
  go_wp2
  go_ret
  exact ⟨rfl, fin⟩

theorem proved_none {w : World} {b m : Nat} {L : Value} {es : List (Int × Pl)} (h : BagAt w b m L es) (id : Int) (hid : aget id es = none) (now : Nat) :
    Calls Tryz.prog 36 #[.pointer (some ⟨b, 0, none⟩), .int .u64 id, .int .u64 now] w fun e w' => e = .returned (.int .i64 9) ∧ Below w.heap.size w w' := by
  have hk := known_calls h id
  rw [hid] at hk
  change Calls Tryz.prog 97 _ w fun e w' => e = .returned (.int .i64 9) ∧ Below w.heap.size w w' at hk
  clear h hid
  go_enter Tryz.func36, Tryz.ntmps36
  go_wp2_with (go_at_call 97; with_reducible refine hk.mono ?_; rintro e w1 ⟨rfl, b1⟩)
  go_ret
  exact ⟨rfl, b1⟩

theorem five_cells {v : World} {Z : Nat} {a0 a1 a2 a3 a4 : Value} {t : TypeId} (r : v.heap[Z]? = some (.cells #[a0, a1, a2, a3, a4] t (0, 0))) :
    v.cell? ⟨Z, 0, none⟩ = some a0 ∧ v.cell? ⟨Z, 1, none⟩ = some a1 ∧ v.cell? ⟨Z, 2, none⟩ = some a2 ∧ v.cell? ⟨Z, 3, none⟩ = some a3 ∧ v.cell? ⟨Z, 4, none⟩ = some a4 ∧ v.frozen? ⟨Z, 0, none⟩ = false ∧ v.frozen? ⟨Z, 1, none⟩ = false ∧ v.frozen? ⟨Z, 2, none⟩ = false ∧ v.frozen? ⟨Z, 3, none⟩ = false ∧ v.frozen? ⟨Z, 4, none⟩ = false := by
  simp [World.cell?, World.frozen?, r]

theorem entry_none {w : World} {b m : Nat} {L : Value} {es : List (Int × Pl)} (h : BagAt w b m L es) (id : Int) (hid : aget id es = none) :
    Calls Tryz.prog 44 #[.pointer (some ⟨b, 0, none⟩), .int .u64 id] w fun e w' => e = .returned (.tuple #[.agg #[.int .u64 0, .int .u64 0, .int .u64 0, .int .u64 0, .int .u64 0], .bool false]) ∧ Below w.heap.size w w' := by
  have W1 : Aside (∀ {v : World}, Below w.heap.size w v → Calls Tryz.prog 94 #[.pointer (some ⟨b, 0, none⟩), .int .u64 id] v fun e w' => e = .returned (.tuple #[.agg #[.pointer none, .int .u64 0, .int .u64 0, .int .u64 0], .bool false]) ∧ Below v.heap.size v w') := fun hv => by
    have hg := get_calls (h.below hv h.lt.1 h.lt.2) id
    rw [hid] at hg
    exact hg
  have b0 : Below w.heap.size w (w.alloc (.cells #[.int .u64 0, .int .u64 0, .int .u64 0, .int .u64 0, .int .u64 0] 78)) := (Below.refl _ w).alloc (Nat.le_refl _) _
  have hg := W1.out b0
  have HF : Aside (∀ {v : World}, Below (w.alloc (.cells #[.int .u64 0, .int .u64 0, .int .u64 0, .int .u64 0, .int .u64 0] 78)).heap.size (w.alloc (.cells #[.int .u64 0, .int .u64 0, .int .u64 0, .int .u64 0, .int .u64 0] 78)) v → v.heap[w.heap.size]? = some (.cells #[.int .u64 0, .int .u64 0, .int .u64 0, .int .u64 0, .int .u64 0] 78 (0, 0))) := fun hv =>
    (hv.block w.heap.size (by simp)).trans (Go.MapKept.heap_alloc w _).1
  clear h hid W1
  go_enter Tryz.func44, Tryz.ntmps44
  go_wp2_with (go_at_call 94; with_reducible refine hg.mono ?_; rintro e w1 ⟨rfl, b1⟩; have r1 := HF.out (b1.alloc b1.size (.cells #[.pointer none, .int .u64 0, .int .u64 0, .int .u64 0] 166)); obtain ⟨k0, k1, k2, k3, k4, f0, f1, f2, f3, f4⟩ := five_cells r1)
  refine bodyPost_ret (v := .tuple #[.agg #[.int .u64 0, .int .u64 0, .int .u64 0, .int .u64 0, .int .u64 0], .bool false]) (by simp [results, Tryz.results44, go_sem, k0, k1, k2, k3, k4]) rfl ⟨rfl, ?_⟩
  have h0 := b0.trans (b1.mono b0.size)
  exact (((((h0.alloc h0.size _).setCell (by simp) _).setCell (by simp) _).setCell (by simp) _).setCell (by simp) _).setCell (by simp) _


end Go.Proofs.YtbdnlaepeladbaaGreatDoor

namespace Go.Proofs.YtbdnlaepeladbaaGreatDoor
open Go.ChangeShapes Go.WideShapes Go.ChangeAt Go.RowKit Go.Eng

variable {K : Fix}

/-! ### Publish, Unlist -/

theorem oneRows_mem {ns : List Int} {n : Int} : [n] ∈ oneRows ns ↔ n ∈ ns := by
  unfold oneRows
  constructor
  · intro h
    obtain ⟨x, h1, h2⟩ := List.mem_map.1 h
    simp only [List.cons.injEq, and_true] at h2
    rw [← h2]; exact h1
  · intro h
    exact List.mem_map.2 ⟨n, h, rfl⟩
theorem oneRows_with (ns : List Int) (n : Int) : oneRows (withL ns n) = if [n] ∈ oneRows ns then oneRows ns else oneRows ns ++ [[n]] := by
  unfold withL
  by_cases h : n ∈ ns
  · rw [if_pos h, if_pos (oneRows_mem.2 h)]
  · rw [if_neg h, if_neg (fun g => h (oneRows_mem.1 g))]
    simp [oneRows]
theorem oneRows_wo {ns : List Int} (hn : ns.Nodup) (n : Int) : oneRows (woL ns n) = (oneRows ns).filter fun r => r != [n] := by
  unfold woL
  rw [hn.erase_eq_filter]
  unfold oneRows
  rw [List.filter_map]
  congr 1
  apply List.filter_congr
  intro x _
  rw [Bool.eq_iff_iff]
  simp [Function.comp]

/-- The list is another one. -/
theorem BagI.list {b m : Nat} {L L' : Value} {es : List (Int × Pl)} {ns ns' : List Int} {B : List (List Int)} {w w' : World} {D R : Nat → Prop} (h : BagI b m L es ns B w D R)
    (hu : Upto (· = b) w w') (hbag : BagAt w' b m L' es) (hl : ListAt w' L' ns') (hnd : ns'.Nodup) (hnw : ∀ n ∈ ns', (Lit.int .u64 n).wf = true) :
    BagI b m L' es ns' B w' D (fun c => ∃ o n cc, L' = .slice (some ⟨c, o, none⟩) n cc) where
  bag := hbag
  lst := hl
  bm := h.bm
  srt := h.srt
  keys := h.keys
  no := h.no
  ent := fun id p hp => by
    obtain ⟨x, h1, h2⟩ := h.ent id p hp
    exact ⟨x, h1.upto hu (word_bag h1 h.bag).1.symm, h2⟩
  inj := h.inj
  wf := h.wf
  nodup := hnd
  nwf := hnw
  zero := h.zero
  Db := h.Db
  Dm := h.Dm
  Dc := h.Dc
  RL := fun g o n c e => ⟨o, n, c, e⟩

theorem list_rr {L L' : Value} {ns' : List Int} {w w' : World} {D R RO : Nat → Prop} (hD : ∀ c, D c → c < w.heap.size) (hRO : ∀ c, RO c → c < w.heap.size ∧ ¬ D c) (hR : ∀ c, R c → RO c)
    (hRL : ∀ g o n c, L = .slice (some ⟨g, o, none⟩) n c → R g) (hs : w.heap.size ≤ w'.heap.size) (hl : ListAt w' L' ns') (hf : FreshL w L L') :
    ∀ c, (∃ o n cc, L' = .slice (some ⟨c, o, none⟩) n cc) → (RO c ∨ w.heap.size ≤ c) ∧ c < w'.heap.size ∧ ¬ D c := by
  rintro c ⟨o, n, cc, e⟩
  have hlt : c < w'.heap.size := by
    rcases hl with ⟨h, _⟩ | ⟨g, cap, cs, h1, h2, _⟩
    · rw [e] at h; cases h
    · rw [e] at h1
      simp only [Value.slice.injEq, Option.some.injEq, Addr.mk.injEq, and_true] at h1
      rw [h1.1.1]; exact (Array.getElem?_eq_some_iff.1 h2).1
  rcases hf with rfl | hf
  · have := hR c (hRL c o n cc e)
    exact ⟨.inl this, hlt, (hRO c this).2⟩
  · have := hf c o n cc e
    exact ⟨.inr this, hlt, fun h => by have := hD c h; omega⟩

theorem BagI.isSome {b m : Nat} {L : Value} {es : List (Int × Pl)} {ns : List Int} {B : List (List Int)} {w : World} {D R : Nat → Prop} (h : BagI b m L es ns B w D R) (id : Int) : (aget id es).isSome = (rfind id B).isSome := by
  cases hid : aget id es with
  | none => rw [h.no id hid]; rfl
  | some p =>
    obtain ⟨x, _, hr⟩ := h.ent id p hid
    rw [hr]; rfl

theorem withL_nodup {ns : List Int} (h : ns.Nodup) (n : Int) : (withL ns n).Nodup := by
  unfold withL
  split
  · exact h
  · rename_i hn
    rw [List.nodup_append]
    refine ⟨h, by simp, fun a ha b hb => ?_⟩
    simp only [List.mem_singleton] at hb
    rintro rfl
    exact hn (hb ▸ ha)

def listSpec (f n : Nat) : Eng.Spec where
  f := f
  recv := some 1
  args := [.int .u64]
  res := fun gs ts _ => match gs, ts with
    | [B, _], [id] => .tm (.int .i64) (.app 115 [B, id])
    | _, _ => .top
  gs' := fun gs ts _ => match gs, ts with
    | [B, L], [id] => [B, .app n [L, B, id]]
    | gs, _ => gs
  news := fun _ _ _ => []
  nn := 0
  need := fun gs _ => match gs with
    | [_, L] => some [(L, 100000)]
    | _ => none

theorem list_spec (hb : BagOb K.ob) (f n : Nat) (hf : 6 ≤ n) (F : List (List Int) → List (List Int) → Int → List (List Int)) (G : List Int → Int → List Int) (hn : ∀ l B id, K.ob.fn n [.rows l, .rows B, .int id] = some (.rows (F l B id)))
    (hlen : ∀ l B id, (F l B id).length ≤ l.length + n % 4)
    (hF : ∀ ns B id, ns.Nodup → F (oneRows ns) B id = oneRows (if (rfind id B).isSome then G ns id else ns)) (hG1 : ∀ ns id, ns.Nodup → (G ns id).Nodup) (hG2 : ∀ ns id x, x ∈ G ns id → x = id ∨ x ∈ ns)
    (hc : ∀ {w : World} {b m : Nat} {L : Value} {es : List (Int × Pl)} {ns : List Int}, BagAt w b m L es → b ≠ m → ListAt w L ns → ns.length ≤ 100000 → ∀ (id : Int),
      Calls Tryz.prog f #[.pointer (some ⟨b, 0, none⟩), .int .u64 id] w fun e w' => e = .returned (.int .i64 (if (aget id es).isSome then 0 else 9)) ∧ Listed w b m L es (if (aget id es).isSome then G ns id else ns) w') :
    SpecOk Tryz.prog K (listSpec f n) := by
  intro E nv gs ts vs v xs w D R RO hfn hvar hrecv hD hRO hR hargs hneed
  obtain ⟨rfl, ⟨a, rfl⟩, gU, hg, ho⟩ := hrecv
  obtain ⟨b, m, L, es, ns, B, hv, rfl, hB⟩ := bag_open hb ho
  simp only [Value.pointer.injEq, Option.some.injEq] at hv
  subst hv
  obtain ⟨gB, gL, rfl, hgB, hgL⟩ := dens_two hg
  simp only [listSpec, ArgRs, ArgR] at hargs
  obtain ⟨_, _, _, _, rfl, ⟨t1, id, rfl, h1, w1, rfl⟩, ⟨rfl, rfl⟩, rfl⟩ := hargs
  have hns : ns.length ≤ 100000 := by
    obtain ⟨l, hl, hl2⟩ := hneed
    simp only [listSpec, Option.some.injEq] at hl
    subst hl
    have := hl2 _ (List.mem_singleton.2 rfl) _ hgL
    simp only [oneRows, List.length_map] at this
    omega
  have dE : (Tm.app 115 [gB, t1]).den E = some (.int (knownE B id)) := den2 hgB h1 (appF_int (by decide) (by rw [hfn, hb.fn 115 (by decide)]; rfl))
  have dL : (Tm.app n [gL, gB, t1]).den E = some (.rows (F (oneRows ns) B id)) := den3 hgL hgB h1 (appF_rows hf (by rw [hfn]; exact hn _ _ _) (hlen _ _ _))
  rw [hF ns B id hB.nodup] at dL
  show Calls Tryz.prog f #[.pointer (some ⟨b, 0, none⟩), .int .u64 id] w _
  refine (hc hB.bag hB.bm hB.lst hns id).mono ?_
  rintro e w' ⟨rfl, L', hu, hbag, hl, hfr⟩
  rw [hB.isSome id] at hl ⊢
  have hI := hB.list hu hbag hl (by split; exact hG1 _ _ hB.nodup; exact hB.nodup) (fun x hx => by
    split at hx
    · rcases hG2 _ _ _ hx with rfl | hx
      · exact w1
      · exact hB.nwf x hx
    · exact hB.nwf x hx)
  refine ⟨_, [], D, _, _, _, rfl, post_new rfl rfl hvar ?_ (fun κ hκ => ?_) (upto0_of hu fun k hk => hk ▸ hB.Db) (fun c hc => ⟨.inl hc, Nat.lt_of_lt_of_le (hD c hc) hu.size⟩) (list_rr hD hRO hR hB.RL hu.size hl hfr)⟩
  · show VR E (.tm (.int .i64) (.app 115 [gB, t1])) _
    refine vr_int (by rw [dE]; rfl) ?_
    split <;> decide
  · cases hκ
    refine ⟨_, ?_, bag_obj hb ⟨b, m, L', es, _, B, rfl, rfl, hI⟩⟩
    show dens E [gB, .app n [gL, gB, t1]] = _
    simp only [dens, hgB, dL]

def spPublish : Eng.Spec := listSpec 34 105
def spUnlist : Eng.Spec := listSpec 39 112

theorem publish_spec (hb : BagOb K.ob) : SpecOk Tryz.prog K spPublish :=
  list_spec hb 34 105 (by decide) publishL withL (fun l B id => by rw [hb.fn 105 (by decide)]; rfl) publishL_length
    (fun ns B id _ => by unfold publishL; split; rw [oneRows_with]; rfl) (fun ns id h => withL_nodup h id) (fun ns id x hx => by unfold withL at hx; split at hx; exact .inr hx; simpa [or_comm] using hx)
    (fun h1 h2 h3 h4 id => publish_calls h1 h2 h3 h4 id)

theorem unlist_spec (hb : BagOb K.ob) : SpecOk Tryz.prog K spUnlist :=
  list_spec hb 39 112 (by decide) unlistL woL (fun l B id => by rw [hb.fn 112 (by decide)]; rfl) unlistL_length
    (fun ns B id h => by unfold unlistL; split; rw [oneRows_wo h]; rfl) (fun ns id h => h.erase id) (fun ns id x hx => .inr (List.mem_of_mem_erase hx))
    (fun h1 h2 h3 h4 id => unlist_calls h1 h2 h3 h4 id)

/-! ### Proved -/

def spProved : Eng.Spec where
  f := 36
  recv := some 1
  args := [.int .u64, .int .u64]
  res := fun gs ts _ => match gs, ts with
    | [B, _], [id, _] => .tm (.int .i64) (.app 115 [B, id])
    | _, _ => .top
  gs' := fun gs ts _ => match gs, ts with
    | [B, L], [id, now] => [.app 108 [B, id, now], L]
    | gs, _ => gs
  news := fun _ _ _ => []
  nn := 0

theorem proved_spec (hb : BagOb K.ob) : SpecOk Tryz.prog K spProved := by
  intro E nv gs ts vs v xs w D R RO hfn hvar hrecv hD hRO hR hargs hneed
  obtain ⟨rfl, ⟨a, rfl⟩, gU, hg, ho⟩ := hrecv
  obtain ⟨b, m, L, es, ns, B, hv, rfl, hB⟩ := bag_open hb ho
  simp only [Value.pointer.injEq, Option.some.injEq] at hv
  subst hv
  obtain ⟨gB, gL, rfl, hgB, hgL⟩ := dens_two hg
  simp only [spProved, ArgRs, ArgR] at hargs
  obtain ⟨_, _, _, _, rfl, ⟨t1, id, rfl, h1, w1, rfl⟩, ⟨_, _, _, _, rfl, ⟨t4, now0, rfl, h4, w4, rfl⟩, ⟨rfl, rfl⟩, rfl⟩, rfl⟩ := hargs
  obtain ⟨now, rfl, hnow⟩ := u64n w4
  have dE : (Tm.app 115 [gB, t1]).den E = some (.int (knownE B id)) := den2 hgB h1 (appF_int (by decide) (by rw [hfn, hb.fn 115 (by decide)]; rfl))
  have dB : (Tm.app 108 [gB, t1, t4]).den E = some (.rows (provedB B id now)) := den3 hgB h1 h4 (appF_rows (by decide) (by rw [hfn, hb.fn 108 (by decide)]; rfl) (provedB_length _ _ _))
  have hRD : ∀ c, R c → c < w.heap.size ∧ ¬ D c := fun c hc => hRO c (hR c hc)
  have fin : ∀ {w' : World} {x : Int} {es' : List (Int × Pl)}, Upto0 D w w' → knownE B id = x → (Lit.int .i64 x).wf = true → BagI b m L es' ns (provedB B id now) w' D R →
      SpecPost K E spProved [gB, gL] [t1, t4] (.pointer (some ⟨b, 0, none⟩)) w nv D RO w' (.int .i64 x) [] D R (fun _ _ => False) (fun _ _ => False) := by
    intro w' x es' hu e1 hx hI
    refine post_same hD hRO hR rfl rfl hvar ?_ (fun κ hκ => ?_) hu
    · show VR E (.tm (.int .i64) (.app 115 [gB, t1])) _
      exact vr_int (by rw [dE, e1]) hx
    · cases hκ
      refine ⟨[.rows (provedB B id now), .rows (oneRows ns)], ?_, bag_obj hb ⟨b, m, L, es', ns, _, rfl, rfl, hI⟩⟩
      show dens E [.app 108 [gB, t1, t4], gL] = _
      simp only [dens, dB, hgL]
  show Calls Tryz.prog 36 #[.pointer (some ⟨b, 0, none⟩), .int .u64 id, .int .u64 (now : Int)] w _
  cases hid : aget id es with
  | none =>
    have hr := hB.no id hid
    refine (proved_none hB.bag id hid now).mono ?_
    rintro e w' ⟨rfl, hbl⟩
    refine ⟨_, [], D, R, _, _, rfl, fin (x := 9) (es' := es) (upto0_below hbl) (by unfold knownE; rw [hr]; rfl) (by decide) ?_⟩
    have : provedB B id now = B := by unfold provedB; rw [hr]
    rw [this]
    exact hB.same fun c hc => hbl.block c (by
      rcases hc with hc | hc
      · exact hD c hc
      · exact (hRD c hc).1)
  | some p =>
    obtain ⟨x, hx, hr⟩ := hB.ent id p hid
    have hmem := (hB.mem hr).2
    simp only [rowP, fiveK, colWfs, colWf, Bool.and_eq_true] at hmem
    obtain ⟨_, hx64, hb64, hs64, hp64, _⟩ := hmem
    refine (proved_some hB.bag hB.bm id hid now).mono ?_
    rintro e w' ⟨rfl, hu, hbag⟩
    have hw := hx.upto hu (word_bag hx hB.bag).2.symm
    have hI := hB.upd (p' := { p with proved := now }) (w' := w') hid rfl (es' := aput id { p with proved := now } es) (fun i => by rw [aget_aput']) (hB.keys.put _ _) hbag hw (by simp only [rowP, fiveK, colWfs, colWf, w1, hx64, hb64, hs64, w4, Bool.and_self]) (fun k hk k1 k2 => hu.block k hk k2) hRD
    refine ⟨_, [], D, R, _, _, rfl, fin (x := 0) (es' := aput id { p with proved := now } es) (upto0_of hu fun k hk => hk ▸ hB.Dm) (by unfold knownE; rw [hr]; rfl) (by decide) ?_⟩
    have : provedB B id now = rset id (rowP { p with proved := now } x) B := by unfold provedB; rw [hr]; rfl
    rw [this]; exact hI

/-! ### Entry, of nothing -/

def spEntry0 : Eng.Spec where
  f := 44
  recv := some 1
  args := [.int .u64]
  res := fun _ _ _ => .lit (.tuple #[.agg #[.int .u64 0, .int .u64 0, .int .u64 0, .int .u64 0, .int .u64 0], .bool false])
  gs' := fun gs _ _ => gs
  news := fun _ _ _ => []
  nn := 0
  need := fun _ ts => match ts with
    | [id] => if isZ id then some [] else none
    | _ => none

theorem entry0_spec (hb : BagOb K.ob) : SpecOk Tryz.prog K spEntry0 := by
  intro E nv gs ts vs v xs w D R RO hfn hvar hrecv hD hRO hR hargs hneed
  obtain ⟨rfl, ⟨a, rfl⟩, gU, hg, ho⟩ := hrecv
  obtain ⟨b, m, L, es, ns, B, hv, rfl, hB⟩ := bag_open hb ho
  simp only [Value.pointer.injEq, Option.some.injEq] at hv
  subst hv
  simp only [spEntry0, ArgRs, ArgR] at hargs
  obtain ⟨_, _, _, _, rfl, ⟨t1, id, rfl, h1, w1, rfl⟩, ⟨rfl, rfl⟩, rfl⟩ := hargs
  have hid0 : id = 0 := by
    obtain ⟨l, hl, _⟩ := hneed
    simp only [spEntry0, List.append_nil] at hl
    split at hl
    · rename_i hz
      rw [isZ_eq hz] at h1
      simp only [Tm.den, Option.some.injEq, U.int.injEq] at h1
      exact h1.symm
    · cases hl
  subst hid0
  have hid : aget 0 es = none := by
    cases h : aget 0 es with
    | none => rfl
    | some p =>
      obtain ⟨x, _, hr⟩ := hB.ent 0 p h
      rw [hB.zero] at hr; cases hr
  show Calls Tryz.prog 44 #[.pointer (some ⟨b, 0, none⟩), .int .u64 0] w _
  refine (entry_none hB.bag 0 hid).mono ?_
  rintro e w' ⟨rfl, hbl⟩
  refine ⟨_, [], D, R, _, _, rfl, post_same hD hRO hR rfl rfl hvar (by simp only [spEntry0, VR]) (fun κ hκ => ?_) (upto0_below hbl)⟩
  cases hκ
  refine ⟨_, hg, bag_obj hb ⟨b, m, L, es, ns, B, rfl, rfl, hB.same fun c hc => hbl.block c ?_⟩⟩
  rcases hc with hc | hc
  · exact hD c hc
  · exact (hRO c (hR c hc)).1

end Go.Proofs.YtbdnlaepeladbaaGreatDoor
