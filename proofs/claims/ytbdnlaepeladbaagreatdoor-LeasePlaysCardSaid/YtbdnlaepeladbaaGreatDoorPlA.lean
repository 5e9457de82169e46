/- The book's Clone, Marked and Forget; rows of one's own. Conditions: how the book lies in memory. -/
import Derived.Test.YtbdnlaepeladbaaGreatDoorBkA
import Derived.Test.YtbdnlaepeladbaaGreatDoorBkC
import Derived.Deep.RegionHeld3
import Derived.Test.YtbdnlaepeladbaaGreatDoorShelfC
import Derived.Test.YtbdnlaepeladbaaGreatDoorMo
import Derived.Laws.OwnMore
namespace Go.Eng
def BK.forget (B : BK) (id : Int) : BK := { B with ms := adel id B.ms }

/-- The document's book. -/
structure RK where
  leak : Int
  L : List (Int × Le)
  M : List Int
  T : List (Int × Int)

def RK.mark (d : RK) (id : Int) : RK := { d with M := (d.M.filter fun x => x != id) ++ [id] }
def RK.forget (d : RK) (id : Int) : RK := { d with M := d.M.filter fun x => x != id }
def RK.end_ (d : RK) (id : Int) : RK := { d with L := d.L.filter fun p => p.1 != id, T := d.T.filter fun x => x.1 != id }
def flagL (D : List Int) (L : List (Int × Le)) : List (Int × Le) := L.map fun p => if p.1 ∈ D then (p.1, { p.2 with fl := true }) else p
def RK.leaks (d : RK) (k : Nat) : RK := { d with L := flagL ((d.T.take k).map (·.1)) d.L, T := d.T.drop k }
theorem flagL_length (D : List Int) (L : List (Int × Le)) : (flagL D L).length = L.length := by unfold flagL; simp
theorem flagL_nil (L : List (Int × Le)) : flagL [] L = L := by unfold flagL; simp
theorem flagL_get {D : List Int} {L : List (Int × Le)} {i : Nat} {p : Int × Le} (h : L[i]? = some p) : (flagL D L)[i]? = some (if p.1 ∈ D then (p.1, { p.2 with fl := true }) else p) := by
  unfold flagL
  rw [List.getElem?_map, h]; rfl
theorem flagL_get2 {D : List Int} {L : List (Int × Le)} {i : Nat} {id : Int} {x : Le} (h : L[i]? = some (id, x)) : ∃ x' : Le, (flagL D L)[i]? = some (id, x') ∧ { x' with fl := true } = { x with fl := true } := by
  rw [flagL_get h]
  by_cases hm : id ∈ D
  · exact ⟨{ x with fl := true }, by simp [hm], rfl⟩
  · exact ⟨x, by simp [hm], rfl⟩
theorem flagL_set {D : List Int} {L : List (Int × Le)} {i : Nat} {id : Int} {x : Le} (hK : Keys1 L) (h : L[i]? = some (id, x)) : (flagL D L).set i (id, { x with fl := true }) = flagL (D ++ [id]) L := by
  apply List.ext_getElem?
  intro m
  rw [List.getElem?_set]
  by_cases hm : i = m
  · subst hm
    have hl := (List.getElem?_eq_some_iff.1 h).1
    rw [if_pos rfl, if_pos (by rw [flagL_length]; exact hl), flagL_get h]
    simp
  · rw [if_neg hm]
    cases hx : L[m]? with
    | none =>
      have hl := List.getElem?_eq_none_iff.1 hx
      rw [List.getElem?_eq_none (by rw [flagL_length]; exact hl), List.getElem?_eq_none (by rw [flagL_length]; exact hl)]
    | some q =>
      rw [flagL_get hx, flagL_get hx]
      have hne : q.1 ≠ id := by
        obtain ⟨hi, ei⟩ := List.getElem?_eq_some_iff.1 h
        obtain ⟨hj, ej⟩ := List.getElem?_eq_some_iff.1 hx
        have hp : L.Pairwise fun a b => a.1 ≠ b.1 := hK
        rw [List.pairwise_iff_getElem] at hp
        rcases Nat.lt_or_gt_of_ne hm with h1 | h1
        · have := hp i m hi hj h1
          rw [ei, ej] at this
          exact fun e => this e.symm
        · have := hp m i hj hi h1
          rw [ei, ej] at this
          exact this
      simp [hne]
/-- Does a thread hold it? -/
def RK.holds (d : RK) (id t : Int) : Bool := match aget id d.L with
  | some x => decide (x.thread = t)
  | none => false
end Go.Eng

namespace Go.Proofs.YtbdnlaepeladbaaGreatDoor
open Go.ChangeShapes Go.WideShapes Go.ChangeAt Go.RowKit Go.Eng

variable {w w' : World} {b ml mm wl mt : Nat} {B : BK} {tm : List (Int × Int)}

theorem look_ms (h : BkAt w b ml mm wl mt B) (id : Int) : (Instr.lookup 131 (.map (some mm)) (.int .u64 id) false).run Tryz.prog w = .ok (.bool ((aget id B.ms).getD false)) w := by
  have := run_lookup_ents (P := Tryz.prog) Tryz.underlying131 Tryz.underlying22 Tryz.zeroValue4 h.ms.is id false
  rw [this]
  cases aget id B.ms with
  | none => rfl
  | some x => rfl

set_option maxRecDepth 100000 in
theorem marked_calls (h : BkAt w b ml mm wl mt B) (id : Int) :
    Calls Tryz.prog 88 #[.pointer (some ⟨b, 0, none⟩), .int .u64 id] w fun e w' => e = .returned (.bool ((aget id B.ms).getD false)) ∧ Below w.heap.size w w' := by
  have hl := look_ms h id
  have q2 := h.q2
  generalize (aget id B.ms).getD false = x at hl ⊢
  clear h
  go_enter Tryz.func88, Tryz.ntmps88
  go_wp2
  go_ret
  exact ⟨rfl, Below.refl _ _⟩

set_option maxRecDepth 100000 in
theorem forget_calls (h : BkAt w b ml mm wl mt B) (id : Int) :
    Calls Tryz.prog 23 #[.pointer (some ⟨b, 0, none⟩), .int .u64 id] w fun e w' => e = .returned (.tuple #[]) ∧ BkAt w' b ml mm wl mt (B.forget id) ∧ Upto (fun k => k = mm) w w' := by
  have q2 := h.q2
  obtain ⟨ms, ck, hmu, he, hs⟩ := run_delete_st (P := Tryz.prog) (s := 22) (ty := 0) Tryz.underlying131 Tryz.underlying22 h.ms id
  have h8 := h.putM he hs (h.km.del id)
  have u8 : Upto (fun k => k = mm) w { w with heap := w.heap.setIfInBounds mm (.map ms.toArray ck) } := Upto.put (S := fun k => k = mm) (Upto.refl w) rfl (.map ms.toArray ck)
  generalize ({ w with heap := w.heap.setIfInBounds mm (.map ms.toArray ck) } : World) = w8 at hmu h8 u8
  have HR := aside_of (And.intro h8 u8)
  clear h he hs h8 u8
  go_enter Tryz.func23, Tryz.ntmps23
  go_wp2
  go_end0
  exact ⟨rfl, HR.out.1, HR.out.2⟩

theorem clLs (h : MapSt .u64 leV w ml B.ls) : Calls Tryz.prog 79 #[.map (some ml)] w fun e w' => e = .returned (.map (some w.heap.size)) ∧ MapSt .u64 leV w' w.heap.size B.ls ∧ Below w.heap.size w w' ∧ w'.heap.size = w.heap.size + 1 := by
  obtain ⟨ms, ck, h1, h2, h3⟩ := h
  refine (AnyW.maps_Clone Tryz.cloneLs ml ms.toArray ck w h1).mono ?_
  rintro e w' ⟨he, rfl⟩
  exact ⟨he, ⟨ms, ck, heap_new _ _, h2, h3⟩, below_alloc _ _, size_new _ _⟩

theorem clMs (h : MapSt .u64 bV w mm B.ms) : Calls Tryz.prog 80 #[.map (some mm)] w fun e w' => e = .returned (.map (some w.heap.size)) ∧ MapSt .u64 bV w' w.heap.size B.ms ∧ Below w.heap.size w w' ∧ w'.heap.size = w.heap.size + 1 := by
  obtain ⟨ms, ck, h1, h2, h3⟩ := h
  refine (AnyW.maps_Clone Tryz.cloneMs mm ms.toArray ck w h1).mono ?_
  rintro e w' ⟨he, rfl⟩
  exact ⟨he, ⟨ms, ck, heap_new _ _, h2, h3⟩, below_alloc _ _, size_new _ _⟩

theorem clTm (h : MapSt .u64 uV w mt tm) : Calls Tryz.prog 164 #[.map (some mt)] w fun e w' => e = .returned (.map (some w.heap.size)) ∧ MapSt .u64 uV w' w.heap.size tm ∧ Below w.heap.size w w' ∧ w'.heap.size = w.heap.size + 1 := by
  obtain ⟨ms, ck, h1, h2, h3⟩ := h
  refine (AnyW.maps_Clone Tryz.cloneTm mt ms.toArray ck w h1).mono ?_
  rintro e w' ⟨he, rfl⟩
  exact ⟨he, ⟨ms, ck, heap_new _ _, h2, h3⟩, below_alloc _ _, size_new _ _⟩

set_option maxRecDepth 100000 in
theorem wclone_calls (h : WhAt w wl mt tm) :
    Calls Tryz.prog 81 #[.pointer (some ⟨wl, 0, none⟩)] w fun e w' => e = .returned (.pointer (some ⟨w.heap.size + 1, 0, none⟩)) ∧ WhAt w' (w.heap.size + 1) w.heap.size tm ∧ Below w.heap.size w w' ∧ w'.heap.size = w.heap.size + 2 := by
  have hc := clTm h.tt
  have q0 := h.q0
  have HK := aside_of h.kt
  clear h
  go_enter Tryz.func81, Tryz.ntmps81
  go_wp2_with (go_at_call 164; with_reducible refine hc.mono ?_; clear hc; rintro e w1 ⟨he, ht, b1, s1⟩; subst he)
  go_ret
  refine ⟨rfl, ⟨?_, ht.below (below_alloc _ _) ht.lt, HK.out⟩, b1.alloc b1.size _, by rw [size_new, s1]⟩
  rw [← s1]
  exact heap_new _ _

set_option maxHeartbeats 1000000 in
set_option maxRecDepth 100000 in
theorem clone_calls (h : BkAt w b ml mm wl mt B) :
    Calls Tryz.prog 20 #[.pointer (some ⟨b, 0, none⟩)] w fun e w' => ∃ b' ml' mm' wl' mt', e = .returned (.pointer (some ⟨b', 0, none⟩)) ∧ BkAt w' b' ml' mm' wl' mt' B ∧ Below w.heap.size w w' ∧ w.heap.size ≤ b' ∧ w.heap.size ≤ ml' ∧ w.heap.size ≤ mm' ∧ w.heap.size ≤ wl' ∧ w.heap.size ≤ mt' := by
  have hd := h.below (below_drew w)
  have HB := aside_of (below_drew w)
  have HK := aside_of (And.intro h.kl (And.intro h.km h.wh.kt))
  have c1 := fun (v : World) (hv : BkAt v b ml mm wl mt B) => clLs hv.ls
  have c2 := fun (v : World) (hv : BkAt v b ml mm wl mt B) => clMs hv.ms
  have c3 := fun (v : World) (hv : BkAt v b ml mm wl mt B) => wclone_calls hv.wh
  have q0 := hd.q0
  have q1 := hd.q1
  have q2 := hd.q2
  have q3 := hd.q3
  go_enter Tryz.func20, Tryz.ntmps20
  go_upto_region 3 with fail
  go_region_held3 (fun w' => w'.cell? ⟨b, 0, none⟩ = some (.int .u64 B.leak) ∧ w'.cell? ⟨b, 1, none⟩ = some (.map (some ml)) ∧ w'.cell? ⟨b, 2, none⟩ = some (.map (some mm)) ∧ w'.cell? ⟨b, 3, none⟩ = some (.pointer (some ⟨wl, 0, none⟩)))
    (first | exact ⟨q0, q1, q2, q3⟩ | exact ⟨h2.q0, h2.q1, h2.q2, h2.q3⟩ | exact ⟨h3.q0, h3.q1, h3.q2, h3.q3⟩ | exact ⟨h4.q0, h4.q1, h4.q2, h4.q3⟩ | go_keep)
    (first
      | (go_at_call 79; with_reducible refine (c1 _ hd).mono ?_; rintro x w2 ⟨hx, m2, b2, s2⟩; subst hx; have h2 := hd.below b2)
      | (go_at_call 80; with_reducible refine (c2 _ h2).mono ?_; rintro x w3 ⟨hx, m3, b3, s3⟩; subst hx; have h3 := h2.below b3)
      | (go_at_call 81; with_reducible refine (c3 _ h3).mono ?_; rintro x w4 ⟨hx, m4, b4, s4⟩; subst hx; have h4 := h3.below b4))
  have s2' : w2.heap.size = w.heap.size + 1 := s2
  have HF := aside_of (And.intro h4 (And.intro m2 (And.intro m3 (And.intro m4 (And.intro b2 (And.intro b3 b4))))))
  have HS := aside_of (And.intro s2' (And.intro s3 s4))
  go_wp2
  go_ret
  obtain ⟨t2, t3, t4⟩ := HS.out
  obtain ⟨_, n2, n3, n4, k2, k3, k4⟩ := HF.out
  have n2' : MapSt .u64 leV w2 w.heap.size B.ls := n2
  have e4 : w4.heap.size = w.heap.size + 1 + 1 + 2 := by rw [t4, t3, t2]
  rw [t2] at n3
  rw [t3, t2] at n4
  have p2 := (((n2'.below k3 n2'.lt).below k4 (n2'.below k3 n2'.lt).lt).grow (.cells #[.int .u64 B.leak, .map (some w.heap.size), .map (some (w.heap.size + 1)), .pointer (some ⟨w.heap.size + 1 + 1 + 1, 0, none⟩)] 135))
  have p3 := (n3.below k4 n3.lt).grow (.cells #[.int .u64 B.leak, .map (some w.heap.size), .map (some (w.heap.size + 1)), .pointer (some ⟨w.heap.size + 1 + 1 + 1, 0, none⟩)] 135)
  have p4 := n4.below (below_alloc w4 (.cells #[.int .u64 B.leak, .map (some w.heap.size), .map (some (w.heap.size + 1)), .pointer (some ⟨w.heap.size + 1 + 1 + 1, 0, none⟩)] 135))
  have kk : Below w.heap.size w w4 := HB.out.trans ((k2.trans (k3.mono (by rw [t2]; show w.heap.size ≤ _; omega))).trans (k4.mono (by rw [t3, t2]; show w.heap.size ≤ _; omega)))
  refine ⟨w4.heap.size, w.heap.size, w.heap.size + 1, w.heap.size + 1 + 1 + 1, w.heap.size + 1 + 1, ?_, ⟨heap_new _ _, p2, HK.out.1, p3, HK.out.2.1, p4, by omega, by omega, by omega⟩, kk.alloc kk.size _, by omega, by omega, by omega, by omega, by omega⟩
  first | rfl | (rw [e4]; rfl)

end Go.Proofs.YtbdnlaepeladbaaGreatDoor

namespace Go.Eng
open Go.Proofs Go.RowKit Go.ChangeShapes Go.WideShapes

/-! ### rows in memory -/
def leE (p : Int × Le) : List Value := [.int .u64 p.1, .int .i64 p.2.thread, .int .u64 p.2.since, .bool p.2.fl]
def tmE (p : Int × Int) : List Value := [.int .u64 p.1, .int .u64 p.2]
def idE (i : Int) : List Value := [.int .u64 i]

variable {α : Type} {enc : α → List Value} {sz : Nat} {w w' : World} {a : Option Addr} {cap : Nat} {xs : List α}

structure SeqIn (w : World) (sz : Nat) (enc : α → List Value) (a : Option Addr) (cap : Nat) (xs : List α) : Prop where
  le : xs.length ≤ cap
  no : a = none → cap = 0
  plain : ∀ p, a = some p → ∃ g o, p = ⟨g, o, none⟩
  cell : ∀ k x, xs[k]? = some x → ∃ g o, a = some ⟨g, o, none⟩ ∧ ∀ j u, (enc x)[j]? = some u → w.cell? ⟨g, o + k * sz + j, none⟩ = some u

theorem SeqIn.nil : SeqIn w sz enc none 0 [] := ⟨Nat.le_refl _, (fun _ => rfl), (fun p h => by cases h), (fun k x h => by simp at h)⟩

theorem SeqIn.same (h : SeqIn w sz enc a cap xs) (hb : ∀ g o p u, a = some ⟨g, o, none⟩ → w.cell? ⟨g, p, none⟩ = some u → w'.cell? ⟨g, p, none⟩ = some u) : SeqIn w' sz enc a cap xs :=
  ⟨h.le, h.no, h.plain, fun k x hk => by
    obtain ⟨g, o, e, hc⟩ := h.cell k x hk
    exact ⟨g, o, e, fun j u hj => hb g o _ u e (hc j u hj)⟩⟩

theorem SeqIn.below (h : SeqIn w sz enc a cap xs) (hb : Below w.heap.size w w') : SeqIn w' sz enc a cap xs :=
  h.same fun g o p u _ hc => by
    have e := hb.block g (World.block_lt_of_cell? _ _ hc)
    simp only [World.cell?] at hc ⊢
    rw [e]; exact hc

theorem flatE_length (hl : ∀ x, (enc x).length = sz) : ∀ xs : List α, (xs.flatMap enc).length = xs.length * sz
  | [] => by simp
  | x :: xs => by
    rw [List.flatMap_cons, List.length_append, hl, flatE_length hl xs, List.length_cons, Nat.succ_mul]; omega

theorem flatE_get (hl : ∀ x, (enc x).length = sz) : ∀ (xs : List α) (k : Nat) (x : α) (j : Nat), xs[k]? = some x → j < sz → (xs.flatMap enc)[k * sz + j]? = (enc x)[j]?
  | [], k, x, j, h, _ => by simp at h
  | y :: xs, 0, x, j, h, hj => by
    obtain rfl := Option.some.inj (by simpa using h)
    rw [List.flatMap_cons, List.getElem?_append_left (by rw [hl]; omega), Nat.zero_mul, Nat.zero_add]
  | y :: xs, k + 1, x, j, h, hj => by
    rw [List.flatMap_cons, List.getElem?_append_right (by rw [hl, Nat.succ_mul]; omega), hl]
    have : (k + 1) * sz + j - sz = k * sz + j := by rw [Nat.succ_mul]; omega
    rw [this]
    exact flatE_get hl xs k x j (by simpa using h) hj

theorem SeqIn.of_own (hl : ∀ x, (enc x).length = sz) {base n : Nat} {e : TypeId} (h : w.ownsRow base e sz (.slice a n cap) n (xs.flatMap enc)) (hn : n = xs.length) : SeqIn w sz enc a cap xs := by
  subst hn
  rcases h.2 with ⟨h1, h0⟩ | ⟨g, cap', cur, h1, hg, hb, h2, h3, h4, h5⟩
  · simp only [Value.slice.injEq] at h1
    obtain ⟨rfl, _, rfl⟩ := h1
    obtain rfl : xs = [] := List.length_eq_zero_iff.1 h0
    exact .nil
  · simp only [Value.slice.injEq] at h1
    obtain ⟨rfl, _, rfl⟩ := h1
    refine ⟨h2, (fun h => by cases h), (fun p hp => ⟨g, 0, (Option.some.inj hp).symm⟩), fun k x hk => ⟨g, 0, rfl, fun j u hj => ?_⟩⟩
    have hjs : j < sz := by have := (List.getElem?_eq_some_iff.1 hj).1; rw [hl] at this; exact this
    have hkl : k < xs.length := (List.getElem?_eq_some_iff.1 hk).1
    rw [Nat.zero_add, World.ownsRow.cellAt h (k * sz + j) (by
      have := Nat.mul_le_mul_right sz (show k + 1 ≤ xs.length by omega)
      rw [Nat.succ_mul] at this
      first | omega | (rw [flatE_length hl]; omega))]
    rw [flatE_get hl xs k x j hk hjs]
    exact hj

/-- The cells, as what is appended. -/
theorem SeqIn.src (hl : ∀ x, (enc x).length = sz) (hs : 0 < sz) {g o : Nat} (h : SeqIn w sz enc (some ⟨g, o, none⟩) cap xs) : ∀ (j : Nat) (u : Value), (xs.flatMap enc)[j]? = some u → w.cell? ((⟨g, o, none⟩ : Addr).add j) = some u := by
  intro j u hj
  have hlt := (List.getElem?_eq_some_iff.1 hj).1
  rw [flatE_length hl] at hlt
  have hkl : j / sz < xs.length := (Nat.div_lt_iff_lt_mul hs).2 hlt
  have e1 : j / sz * sz + j % sz = j := by rw [Nat.mul_comm]; exact Nat.div_add_mod j sz
  have g1 := flatE_get hl xs _ _ (j % sz) (List.getElem?_eq_getElem hkl) (Nat.mod_lt _ hs)
  rw [e1, hj] at g1
  obtain ⟨g', o', e, hc⟩ := h.cell _ _ (List.getElem?_eq_getElem hkl)
  simp only [Option.some.injEq, Addr.mk.injEq, and_true] at e
  obtain ⟨rfl, rfl⟩ := e
  have := hc _ u g1.symm
  rw [Nat.add_assoc, e1] at this
  rw [Eng.add_plain]
  exact this

theorem SeqIn.take (h : SeqIn w sz enc a cap xs) (i : Nat) : SeqIn w sz enc a cap (xs.take i) :=
  ⟨Nat.le_trans (by rw [List.length_take]; omega) h.le, h.no, h.plain, fun k x hk => by
    rw [List.getElem?_take] at hk
    split at hk
    · exact h.cell k x hk
    · cases hk⟩

theorem SeqIn.drop {g o : Nat} (h : SeqIn w sz enc (some ⟨g, o, none⟩) cap xs) (i : Nat) : SeqIn w sz enc (some ⟨g, o + i * sz, none⟩) (cap - i) (xs.drop i) :=
  ⟨by have := h.le; rw [List.length_drop]; omega, (fun h => by cases h), (fun p hp => ⟨g, o + i * sz, (Option.some.inj hp).symm⟩), fun k x hk => by
    rw [List.getElem?_drop] at hk
    obtain ⟨g', o', e, hc⟩ := h.cell _ x hk
    simp only [Option.some.injEq, Addr.mk.injEq, and_true] at e
    obtain ⟨rfl, rfl⟩ := e
    refine ⟨g, _, rfl, fun j u hj => ?_⟩
    have := hc j u hj
    rw [Nat.add_mul] at this
    rw [show o + i * sz + k * sz + j = o + (i * sz + k * sz) + j by omega]
    exact this⟩

theorem SeqIn.none_nil (h : SeqIn w sz enc none cap xs) : xs = [] ∧ cap = 0 := by
  have := h.no rfl
  have h2 := h.le
  exact ⟨List.length_eq_zero_iff.1 (by omega), this⟩

theorem leE_len (x : Int × Le) : (leE x).length = 4 := rfl
theorem tmE_len (x : Int × Int) : (tmE x).length = 2 := rfl
theorem idE_len (x : Int) : (idE x).length = 1 := rfl
theorem flat_id (xs : List Int) : xs.flatMap idE = xs.map (Value.int .u64) := by
  induction xs with
  | nil => rfl
  | cons x xs ih => rw [List.flatMap_cons, ih]; rfl

theorem flatE_one (h1 : ∀ x, ∀ u ∈ enc x, u.oneCell' = true) (xs : List α) : ∀ u ∈ xs.flatMap enc, u.oneCell' = true := by
  intro u hu
  obtain ⟨x, _, hx⟩ := List.mem_flatMap.1 hu
  exact h1 x u hx
theorem leE_one (x : Int × Le) : ∀ u ∈ leE x, u.oneCell' = true := by
  intro u hu
  simp only [leE, List.mem_cons, List.not_mem_nil, or_false] at hu
  rcases hu with rfl | rfl | rfl | rfl <;> rfl
theorem tmE_one (x : Int × Int) : ∀ u ∈ tmE x, u.oneCell' = true := by
  intro u hu
  simp only [tmE, List.mem_cons, List.not_mem_nil, or_false] at hu
  rcases hu with rfl | rfl <;> rfl

/-- Four cells of a lease. -/
theorem SeqIn.le4 {xs : List (Int × Le)} (h : SeqIn w 4 leE a cap xs) {k : Nat} {x : Int × Le} (hk : xs[k]? = some x) : ∃ g o, a = some ⟨g, o, none⟩ ∧ w.cell? ⟨g, o + k * 4, none⟩ = some (.int .u64 x.1) ∧ w.cell? ⟨g, o + k * 4 + 1, none⟩ = some (.int .i64 x.2.thread) ∧ w.cell? ⟨g, o + k * 4 + 2, none⟩ = some (.int .u64 x.2.since) ∧ w.cell? ⟨g, o + k * 4 + 3, none⟩ = some (.bool x.2.fl) := by
  obtain ⟨g, o, e, hc⟩ := h.cell k x hk
  exact ⟨g, o, e, hc 0 _ rfl, hc 1 _ rfl, hc 2 _ rfl, hc 3 _ rfl⟩
theorem SeqIn.tm2 {xs : List (Int × Int)} (h : SeqIn w 2 tmE a cap xs) {k : Nat} {x : Int × Int} (hk : xs[k]? = some x) : ∃ g o, a = some ⟨g, o, none⟩ ∧ w.cell? ⟨g, o + k * 2, none⟩ = some (.int .u64 x.1) ∧ w.cell? ⟨g, o + k * 2 + 1, none⟩ = some (.int .u64 x.2) := by
  obtain ⟨g, o, e, hc⟩ := h.cell k x hk
  exact ⟨g, o, e, hc 0 _ rfl, hc 1 _ rfl⟩
theorem SeqIn.id1 {xs : List Int} (h : SeqIn w 1 idE a cap xs) {k : Nat} {x : Int} (hk : xs[k]? = some x) : ∃ g o, a = some ⟨g, o, none⟩ ∧ w.cell? ⟨g, o + k, none⟩ = some (.int .u64 x) := by
  obtain ⟨g, o, e, hc⟩ := h.cell k x hk
  have := hc 0 _ rfl
  rw [Nat.mul_one] at this
  exact ⟨g, o, e, this⟩

theorem own_store {base n c g p : Nat} {e : TypeId} {vs : List Value} (h : w.ownsRow base e sz (.slice (some ⟨g, 0, none⟩) n c) n vs) (u : Value) : (w.setCell ⟨g, p, none⟩ u).ownsRow base e sz (.slice (some ⟨g, 0, none⟩) n c) n (vs.set p u) := by
  refine ⟨by rw [List.length_set]; exact h.1, ?_⟩
  rcases h.2 with ⟨h1, _⟩ | ⟨g', cap, cur, h1, hg, hb, h2, h3, h4, h5⟩
  · cases h1
  · simp only [Value.slice.injEq, Option.some.injEq, Addr.mk.injEq, and_true, true_and] at h1
    obtain ⟨rfl, rfl⟩ := h1
    refine .inr ⟨g, c, cur.setIfInBounds p u, rfl, hg, ?_, h2, h3, by simpa using h4, ?_⟩
    · rw [setCell_cells hb]
      simp [(Array.getElem?_eq_some_iff.1 hb).1]
    · rw [← h5, Array.toList_setIfInBounds, List.take_set]

theorem leE_set : ∀ {L : List (Int × Le)} {i : Nat} {id : Int} {x : Le}, L[i]? = some (id, x) → (L.flatMap leE).set (i * 4 + 3) (.bool true) = (L.set i (id, { x with fl := true })).flatMap leE
  | [], i, id, x, h => by simp at h
  | p :: L, 0, id, x, h => by
    obtain rfl := Option.some.inj (by simpa using h)
    rfl
  | p :: L, i + 1, id, x, h => by
    have ih := leE_set (L := L) (i := i) (id := id) (x := x) (by simpa using h)
    rw [List.flatMap_cons, List.set_cons_succ, List.flatMap_cons, ← ih, List.set_append_right _ _ (by rw [leE_len]; omega)]
    rw [leE_len, show (i + 1) * 4 + 3 - 4 = i * 4 + 3 by omega]

end Go.Eng
