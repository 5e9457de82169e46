/- The document's book as lists, how it lies in memory; its functions, part 1. Conditions: how the lists lie in memory. -/
import Derived.Test.YtbdnlaepeladbaaGreatDoorPlA
import Derived.Deep.CutBlock
import Derived.BigQuiet
import Derived.Laws.AppendOwnNone
import Derived.Deep.Onto
namespace Go.Proofs.YtbdnlaepeladbaaGreatDoor
open Go.ChangeShapes Go.WideShapes Go.ChangeAt Go.RowKit Go.Eng

variable {w w' : World}

/-- The document's book: its lists in memory. -/
structure RbAt (w : World) (d : RK) (aL aM aT : Option Addr) (cL cM cT : Nat) : Prop where
  l : SeqIn w 4 leE aL cL d.L
  m : SeqIn w 1 idE aM cM d.M
  t : SeqIn w 2 tmE aT cT d.T

abbrev rbV (lk : Int) (aL : Option Addr) (nL cL : Nat) (aM : Option Addr) (nM cM : Nat) (aT : Option Addr) (nT cT : Nat) : Value := .agg #[.int .u64 lk, .slice aL nL cL, .slice aM nM cM, .slice aT nT cT]

variable {d : RK} {aL aM aT : Option Addr} {nL nM nT cL cM cT : Nat}

theorem RbAt.below (h : RbAt w d aL aM aT cL cM cT) (hb : Below w.heap.size w w') : RbAt w' d aL aM aT cL cM cT := ⟨h.l.below hb, h.m.below hb, h.t.below hb⟩

/-- A row in a block of its own. -/
def NewA (w : World) (a : Option Addr) : Prop := ∀ g o, a = some ⟨g, o, none⟩ → w.heap.size ≤ g

theorem own_newA {base size n c : Nat} {e : TypeId} {a : Option Addr} {xs : List Value} {v : World} (h : v.ownsRow base e size (.slice a n c) n xs) (hX : w.heap.size ≤ base) : NewA w a := by
  intro g o ha
  rcases h.2 with ⟨h1, _⟩ | ⟨g', cap, cur, h1, hg, _⟩
  · simp only [Value.slice.injEq] at h1
    rw [h1.1] at ha; cases ha
  · simp only [Value.slice.injEq] at h1
    rw [h1.1] at ha
    simp only [Option.some.injEq, Addr.mk.injEq, and_true] at ha
    omega
theorem newA_nil : NewA w none := fun g o h => by cases h

/-- An id's place. -/
def IsPos (id : Int) (L : List (Int × Le)) (i : Int) : Prop := (i = -1 ∧ aget id L = none) ∨ ∃ k x, i = (k : Nat) ∧ L[k]? = some (id, x) ∧ aget id L = some x

theorem aget_dropL {ls : List (Int × Le)} {k : Nat} {p : Int × Le} {id : Int} (hk : ls[k]? = some p) : aget id (ls.drop k) = if id = p.1 then some p.2 else aget id (ls.drop (k + 1)) := by
  have hl : k < ls.length := (List.getElem?_eq_some_iff.1 hk).1
  have : ls.drop k = p :: ls.drop (k + 1) := by
    rw [List.drop_eq_getElem_cons hl]
    rw [List.getElem?_eq_getElem hl] at hk
    rw [Option.some.inj hk]
  rw [this]; rfl

set_option maxHeartbeats 1000000 in
set_option maxRecDepth 1000000 in
theorem rfind_calls {L : List (Int × Le)} {lk : Int} (h : SeqIn w 4 leE aL cL L) (hm : L.length ≤ 1000) (id : Int) :
    Calls Tryz.prog 85 #[rbV lk aL L.length cL aM nM cM aT nT cT, .int .u64 id] w fun e w' => ∃ i, e = .returned (.int .i64 i) ∧ IsPos id L i ∧ Below w.heap.size w w' := by
  have H0 := aside_of h
  obtain ⟨n, hn⟩ : ∃ n, n = L.length := ⟨_, rfl⟩
  have HN := aside_of hn
  rw [← hn] at hm ⊢
  clear h hn
  have HB := aside_of (below_alloc w (.cells #[.int .u64 lk, .slice aL n cL, .slice aM nM cM, .slice aT nT cT] 45))
  go_enter Tryz.func85, Tryz.ntmps85
  go_wp2
  go_loopg [10] n (fun gh i wx => ∃ k : Nat, k ≤ n ∧ gh = n - k ∧ i = .int .i64 k ∧ aget id (L.drop k) = aget id L ∧ Below w.heap.size w wx)
  case atStart => exact ⟨0, Nat.zero_le _, rfl, rfl, rfl, HB.out⟩
  case round =>
    obtain ⟨k, hk, rfl, rfl, hd, hb⟩ := hrel
    by_cases hlt : k < n
    · obtain ⟨p, hp⟩ : ∃ p, L[k]? = some p := ⟨_, List.getElem?_eq_getElem (by rw [← HN.out]; exact hlt)⟩
      obtain ⟨g, o, rfl, c0, c1, c2, c3⟩ := (H0.out.below hb).le4 hp
      rw [aget_dropL hp] at hd
      have HD := aside_of (And.intro hd hp)
      have HB2 := aside_of hb
      clear hd hp hb
      have hki : (k : Int) < (n : Int) := by omega
      obtain ⟨q0, x⟩ := p
      obtain ⟨x0, x1, x2⟩ := x
      by_cases e : q0 = id
      · have e' : (q0 == id) = true := by simpa using e
        go_wp2
        go_ret
        obtain ⟨h1, h2⟩ := HD.out
        rw [if_pos e.symm] at h1
        exact ⟨k, rfl, .inr ⟨k, _, rfl, by rw [h2, e], h1.symm⟩, HB2.out.alloc HB2.out.size _⟩
      · have e' : (q0 == id) = false := by simpa using e
        go_wp2
        go_roundg (n - (k + 1))
        case measure => omega
        case rel =>
          have h1 := HD.out.1
          rw [if_neg fun h => e h.symm] at h1
          exact ⟨k + 1, by omega, rfl, by go_num, h1, HB2.out.alloc HB2.out.size _⟩
    · obtain rfl : k = n := by omega
      have hnone : aget id L = none := by rw [← hd, HN.out, List.drop_length]; rfl
      have HZ := aside_of (And.intro hnone hb)
      clear hd hb hnone
      go_wp2
      go_ret
      exact ⟨-1, rfl, .inl ⟨rfl, HZ.out.1⟩, HZ.out.2⟩

end Go.Proofs.YtbdnlaepeladbaaGreatDoor

namespace Go.Proofs.YtbdnlaepeladbaaGreatDoor
open Go.ChangeShapes Go.WideShapes Go.ChangeAt Go.RowKit Go.Eng

variable {w w' : World} {d : RK} {aL aM aT : Option Addr} {nL nM nT cL cM cT : Nat}

/-- who holds it. -/
def HoldPos (id t : Int) (L : List (Int × Le)) (i : Int) : Prop := (i = -1 ∧ ∀ x, aget id L = some x → x.thread ≠ t) ∨ ∃ k x, i = (k : Nat) ∧ L[k]? = some (id, x) ∧ aget id L = some x ∧ x.thread = t

set_option maxHeartbeats 1000000 in
set_option maxRecDepth 1000000 in
theorem rholds_calls {L : List (Int × Le)} {lk : Int} (h : SeqIn w 4 leE aL cL L) (hm : L.length ≤ 1000) (id t : Int) :
    Calls Tryz.prog 82 #[rbV lk aL L.length cL aM nM cM aT nT cT, .int .u64 id, .int .i64 t] w fun e w' => ∃ i, e = .returned (.int .i64 i) ∧ HoldPos id t L i ∧ Below w.heap.size w w' := by
  have b1 := below_alloc w (.cells #[.int .u64 lk, .slice aL L.length cL, .slice aM nM cM, .slice aT nT cT] 45)
  have hr : (w.alloc (.cells #[.int .u64 lk, .slice aL L.length cL, .slice aM nM cM, .slice aT nT cT] 45)).heap[w.heap.size]? = some (.cells #[.int .u64 lk, .slice aL L.length cL, .slice aM nM cM, .slice aT nT cT] 45 (0, 0)) := heap_new _ _
  have hf := rfind_calls (aM := aM) (nM := nM) (cM := cM) (aT := aT) (nT := nT) (cT := cT) (lk := lk) (h.below b1) hm id
  have H0 := aside_of (And.intro h (And.intro b1 hr))
  obtain ⟨n, hn⟩ : ∃ n, n = L.length := ⟨_, rfl⟩
  have HN := aside_of hn
  rw [← hn] at hm hf hr H0 b1 ⊢
  clear h hn b1 hr
  go_enter Tryz.func82, Tryz.ntmps82
  go_upto_region 2 with (go_at_call 85; with_reducible refine hf.mono ?_; clear hf; rintro e w2 ⟨i, he, hi, b2⟩; subst he)
  have hrow := (b2.block w.heap.size (by simp)).trans H0.out.2.2
  have q1 : w2.cell? ⟨w.heap.size, 1, none⟩ = some (.slice aL n cL) := by simp [World.cell?, hrow]
  have hS := (H0.out.1.below H0.out.2.1).below b2
  have hb := H0.out.2.1.trans (b2.mono H0.out.2.1.size)
  clear hrow
  rcases hi with ⟨rfl, hnone⟩ | ⟨k, x, rfl, hk, hg⟩
  · have HZ := aside_of (And.intro hnone hb)
    clear hS hb hnone b2
    go_wp2
    go_ret
    exact ⟨-1, rfl, .inl ⟨rfl, fun x hx => by rw [HZ.out.1] at hx; cases hx⟩, HZ.out.2⟩
  · obtain ⟨g, o, rfl, c0, c1, c2, c3⟩ := hS.le4 hk
    have hkn : k < n := by rw [HN.out]; exact (List.getElem?_eq_some_iff.1 hk).1
    have HZ := aside_of (And.intro hk (And.intro hg hb))
    clear hS hb hk hg b2
    obtain ⟨x0, x1, x2⟩ := x
    have hk0 : (0 : Int) ≤ (k : Int) := by omega
    have hki : (k : Int) < (n : Int) := by omega
    by_cases ht : x0 = t
    · have ht' : (x0 != t) = false := by simpa using ht
      go_wp2
      go_ret
      exact ⟨k, rfl, .inr ⟨k, _, rfl, HZ.out.1, HZ.out.2.1, ht⟩, HZ.out.2.2⟩
    · have ht' : (x0 != t) = true := by simpa using ht
      go_wp2
      go_ret
      exact ⟨-1, rfl, .inl ⟨rfl, fun x hx => by rw [HZ.out.2.1] at hx; obtain rfl := Option.some.inj hx; exact ht⟩, HZ.out.2.2⟩

set_option maxHeartbeats 1000000 in
set_option maxRecDepth 1000000 in
theorem rmarked_calls {M : List Int} {lk : Int} (h : SeqIn w 1 idE aM cM M) (hm : M.length ≤ 1000) (id : Int) :
    Calls Tryz.prog 89 #[rbV lk aL nL cL aM M.length cM aT nT cT, .int .u64 id] w fun e w' => e = .returned (.bool (decide (id ∈ M))) ∧ Below w.heap.size w w' := by
  have H0 := aside_of h
  obtain ⟨n, hn⟩ : ∃ n, n = M.length := ⟨_, rfl⟩
  have HN := aside_of hn
  rw [← hn] at hm ⊢
  clear h hn
  have HB := aside_of (below_alloc w (.cells #[.int .u64 lk, .slice aL nL cL, .slice aM n cM, .slice aT nT cT] 45))
  go_enter Tryz.func89, Tryz.ntmps89
  go_wp2
  go_loopg [10] n (fun gh i wx => ∃ k : Nat, k ≤ n ∧ gh = n - k ∧ i = .int .i64 k ∧ Aside (id ∉ M.take k) ∧ Below w.heap.size w wx)
  case atStart => exact ⟨0, Nat.zero_le _, rfl, rfl, aside_of (by simp), HB.out⟩
  case round =>
    obtain ⟨k, hk, rfl, rfl, hd, hb⟩ := hrel
    by_cases hlt : k < n
    · obtain ⟨p, hp⟩ : ∃ p, M[k]? = some p := ⟨_, List.getElem?_eq_getElem (by rw [← HN.out]; exact hlt)⟩
      obtain ⟨g, o, rfl, c0⟩ := (H0.out.below hb).id1 hp
      have HD := aside_of hp
      have HB2 := aside_of hb
      clear hp hb
      have hki : (k : Int) < (n : Int) := by omega
      by_cases e : p = id
      · have e' : (p == id) = true := by simpa using e
        go_wp2
        go_ret
        have : decide (id ∈ M) = true := by rw [decide_eq_true_eq, ← e]; exact List.mem_of_getElem? HD.out
        exact ⟨by rw [this]; rfl, HB2.out⟩
      · have e' : (p == id) = false := by simpa using e
        go_wp2
        go_roundg (n - (k + 1))
        case measure => omega
        case rel =>
          refine ⟨k + 1, by omega, rfl, by go_num, aside_of ?_, HB2.out⟩
          rw [List.take_add_one, HD.out]
          intro hmem
          rcases List.mem_append.1 hmem with h | h
          · exact hd.out h
          · exact e (Eq.symm (by simpa using h))
    · obtain rfl : k = n := by omega
      have hnone : decide (id ∈ M) = false := by
        rw [decide_eq_false_iff_not]
        have := hd.out
        rwa [HN.out, List.take_length] at this
      have HZ := aside_of (And.intro hnone hb)
      clear hd hb hnone
      go_wp2
      go_ret
      exact ⟨by rw [HZ.out.1]; rfl, HZ.out.2⟩

theorem rholds_no {L : List (Int × Le)} {lk : Int} (h : SeqIn w 4 leE aL cL L) (hm : L.length ≤ 1000) (id t : Int) (hn : RK.holds ⟨lk, L, [], []⟩ id t = false) :
    Calls Tryz.prog 82 #[rbV lk aL L.length cL aM nM cM aT nT cT, .int .u64 id, .int .i64 t] w fun e w' => e = .returned (.int .i64 (-1)) ∧ Below w.heap.size w w' := by
  refine (rholds_calls h hm id t).mono ?_
  rintro e w' ⟨i, he, hi, hb⟩
  rcases hi with ⟨rfl, _⟩ | ⟨k, x, rfl, _, hg, ht⟩
  · exact ⟨he, hb⟩
  · exfalso
    unfold RK.holds at hn
    rw [hg] at hn
    simp [ht] at hn

theorem rholds_yes {L : List (Int × Le)} {lk : Int} (h : SeqIn w 4 leE aL cL L) (hm : L.length ≤ 1000) (id t : Int) (hn : RK.holds ⟨lk, L, [], []⟩ id t = true) :
    Calls Tryz.prog 82 #[rbV lk aL L.length cL aM nM cM aT nT cT, .int .u64 id, .int .i64 t] w fun e w' => ∃ (k : Nat) (x : Le), e = .returned (.int .i64 k) ∧ L[k]? = some (id, x) ∧ Below w.heap.size w w' := by
  refine (rholds_calls h hm id t).mono ?_
  rintro e w' ⟨i, he, hi, hb⟩
  rcases hi with ⟨rfl, hno⟩ | ⟨k, x, rfl, hk, _, _⟩
  · exfalso
    unfold RK.holds at hn
    cases hx : aget id L with
    | none => rw [hx] at hn; cases hn
    | some x => rw [hx] at hn; exact hno x hx (by simpa using hn)
  · exact ⟨k, x, he, hk, hb⟩

end Go.Proofs.YtbdnlaepeladbaaGreatDoor

namespace Go.Proofs.YtbdnlaepeladbaaGreatDoor
open Go.ChangeShapes Go.WideShapes Go.ChangeAt Go.RowKit Go.Eng

variable {w w' : World} {d : RK} {aL aM aT : Option Addr} {nL nM nT cL cM cT : Nat}

theorem filter_takeG {α : Type} {ss : List α} {k : Nat} {x : α} (h : ss[k]? = some x) (q : α → Bool) : (ss.take (k + 1)).filter q = (ss.take k).filter q ++ (if q x then [x] else []) := by
  rw [List.take_add_one, h, List.filter_append]
  simp only [Option.toList_some, List.filter_cons, List.filter_nil]

theorem infoT : (Tryz.prog.info? 243).map (fun i => (i.zero, i.size, i.bytes)) = some (some (.agg #[.int .u64 0, .int .u64 0]), 2, 16) := by kernel_rfl
theorem infoL : (Tryz.prog.info? 151).map (fun i => (i.zero, i.size, i.bytes)) = some (some (.agg #[.int .u64 0, .int .i64 0, .int .u64 0, .bool false]), 4, 32) := by kernel_rfl

set_option maxHeartbeats 1000000 in
set_option maxRecDepth 1000000 in
theorem rheld_calls {L : List (Int × Le)} {lk : Int} (h : SeqIn w 4 leE aL cL L) (hm : L.length ≤ 1000) (t : Int) :
    Calls Tryz.prog 87 #[rbV lk aL L.length cL aM nM cM aT nT cT, .int .i64 t] w fun e w' => ∃ a cap R, e = .returned (.slice a (List.length R) cap) ∧ R = (L.filter fun x => x.2.thread == t).map (·.1) ∧ SeqIn w' 1 idE a cap R ∧ Below w.heap.size w w' := by
  obtain ⟨i0, hi, hz0, hz1, hz2⟩ := info_partsU infoW
  have H0 := aside_of h
  obtain ⟨n, hn⟩ : ∃ n, n = L.length := ⟨_, rfl⟩
  have HN := aside_of hn
  rw [← hn] at hm ⊢
  clear h hn
  have HB := aside_of (below_alloc w (.cells #[.int .u64 lk, .slice aL n cL, .slice aM nM cM, .slice aT nT cT] 45))
  go_enter Tryz.func87, Tryz.ntmps87
  go_wp2
  go_loopg [5, 11] n (fun gh v5 v11 wr => ∃ k : Nat, k ≤ n ∧ gh = n - k ∧ v11 = .int .i64 k ∧ Below w.heap.size w wr ∧ wr.ownsRow w.heap.size 22 1 v5 ((L.take k).filter fun x => x.2.thread == t).length ((((L.take k).filter fun x => x.2.thread == t).map (·.1)).map (Value.int .u64)))
  case atStart => exact ⟨0, Nat.zero_le _, rfl, rfl, HB.out, World.ownsRow_nil _ _ 22 1⟩
  case round =>
    obtain ⟨k, hk, rfl, rfl, b3, hown⟩ := hrel
    obtain ⟨a5, c5, rfl⟩ := own_shapeU hown
    by_cases hkn : k < n
    · obtain ⟨p, hp⟩ : ∃ p, L[k]? = some p := ⟨_, List.getElem?_eq_getElem (by rw [← HN.out]; exact hkn)⟩
      obtain ⟨g, o, rfl, c0, c1, c2, c3⟩ := (H0.out.below b3).le4 hp
      have hft := filter_takeG hp (fun x => x.2.thread == t)
      have hzl : ((L.take k).filter fun x => x.2.thread == t).length ≤ 1000 := Nat.le_trans (List.length_filter_le _ _) (by rw [List.length_take]; omega)
      obtain ⟨p0, x⟩ := p
      obtain ⟨x0, x1, x2⟩ := x
      generalize hR : ((L.take k).filter fun x => x.2.thread == t) = R at hown hft hzl
      generalize hz : R.length = z at hown hzl
      have HO := aside_of (And.intro hown (And.intro b3 hz))
      have hkn' : (k : Int) < (n : Int) := by omega
      clear hown b3 hR hz hp
      by_cases e : x0 = t
      · obtain rfl := e
        have e' : (x0 == x0) = true := by simp
        have HT := aside_of (show (L.take (k + 1)).filter (fun x => x.2.thread == x0) = R ++ [(p0, ⟨x0, x1, x2⟩)] by rw [hft]; simp)
        clear hft
        go_wp2_with (at_builtin; refine wpList_append_own _ rfl (.tmp 19) (.tmp 22) 33 rfl w.heap.size 22 i0 (.int .u64 0) 1 8 Tryz.underlying33 hi hz0 hz1 hz2 rfl (by decide) (.slice a5 z c5) z ((R.map (·.1)).map (Value.int .u64)) rfl (World.ownsRow.alloc (World.ownsRow.alloc HO.out.1 _) _) ⟨wr.heap.size + 1, 0, none⟩ 1 1 [.int .u64 p0] rfl rfl (by have := own_oneU (w := wr.alloc (.cells #[.int .u64 p0, .int .i64 x0, .int .u64 x1, .bool x2] 151)) (.int .u64 p0) 22; rw [size_new] at this; exact this) (by simp [Value.oneCell']) (by unfold maxLen; omega) (by omega) (by have := HO.out.2.1.size; simp; omega) ?_; intro v7 w7 own7 gr7 _; have b7 : Below w.heap.size w w7 := ((HO.out.2.1.alloc HO.out.2.1.size _).alloc (by have := HO.out.2.1.size; simp; omega) _).trans (grown_ownU (by have := HO.out.2.1.size; simp; omega) (World.ownsRow.alloc (World.ownsRow.alloc HO.out.1 _) _) gr7); obtain ⟨a7, c7, rfl⟩ := own_shapeU own7)
        go_roundg (n - (k + 1))
        case measure => omega
        case rel =>
          have hlen : (R ++ [(p0, (⟨x0, x1, x2⟩ : Le))]).length = z + 1 := by rw [List.length_append, HO.out.2.2]; rfl
          refine ⟨k + 1, by omega, rfl, by go_num, b7, ?_⟩
          rw [HT.out, hlen, List.map_append, List.map_append]
          exact own7
      · have e' : (x0 == t) = false := by simpa using e
        have HT := aside_of (show (L.take (k + 1)).filter (fun x => x.2.thread == t) = R by rw [hft]; simp [e'])
        clear hft
        go_wp2
        go_roundg (n - (k + 1))
        case measure => omega
        case rel =>
          refine ⟨k + 1, by omega, rfl, by go_num, HO.out.2.1.alloc HO.out.2.1.size _, ?_⟩
          rw [HT.out, HO.out.2.2]
          exact World.ownsRow.alloc HO.out.1 _
    · obtain rfl : k = n := by omega
      have ht : L.take k = L := by rw [HN.out, List.take_length]
      simp only [ht] at hown ⊢
      clear ht
      have HZ := aside_of (And.intro hown b3)
      have hl : (L.filter fun x => x.2.thread == t).length = ((L.filter fun x => x.2.thread == t).map (·.1)).length := by rw [List.length_map]
      have HL := aside_of hl
      clear hown b3 hl
      go_wp2
      go_ret
      refine ⟨a5, c5, _, by rw [← HL.out]; rfl, rfl, .of_own idE_len (base := w.heap.size) (e := 22) (n := ((L.filter fun x => x.2.thread == t).map (·.1)).length) ?_ rfl, HZ.out.2⟩
      rw [← HL.out, flat_id]
      exact HZ.out.1

end Go.Proofs.YtbdnlaepeladbaaGreatDoor

namespace Go.Proofs.YtbdnlaepeladbaaGreatDoor
open Go.ChangeShapes Go.WideShapes Go.ChangeAt Go.RowKit Go.Eng

variable {w w' : World} {d : RK} {aL aM aT : Option Addr} {nL nM nT cL cM cT : Nat}

set_option maxHeartbeats 1000000 in
set_option maxRecDepth 1000000 in
theorem rflagged_calls {L : List (Int × Le)} {lk : Int} (h : SeqIn w 4 leE aL cL L) (hm : L.length ≤ 1000) :
    Calls Tryz.prog 90 #[rbV lk aL L.length cL aM nM cM aT nT cT] w fun e w' => ∃ a cap R, e = .returned (.slice a (List.length R) cap) ∧ R = (L.filter fun x => x.2.fl).map (·.1) ∧ SeqIn w' 1 idE a cap R ∧ Below w.heap.size w w' := by
  obtain ⟨i0, hi, hz0, hz1, hz2⟩ := info_partsU infoW
  have H0 := aside_of h
  obtain ⟨n, hn⟩ : ∃ n, n = L.length := ⟨_, rfl⟩
  have HN := aside_of hn
  rw [← hn] at hm ⊢
  clear h hn
  have HB := aside_of (below_alloc w (.cells #[.int .u64 lk, .slice aL n cL, .slice aM nM cM, .slice aT nT cT] 45))
  go_enter Tryz.func90, Tryz.ntmps90
  go_wp2
  go_loopg [3, 9] n (fun gh v3 v9 wr => ∃ k : Nat, k ≤ n ∧ gh = n - k ∧ v9 = .int .i64 k ∧ Below w.heap.size w wr ∧ wr.ownsRow w.heap.size 22 1 v3 ((L.take k).filter fun x => x.2.fl).length ((((L.take k).filter fun x => x.2.fl).map (·.1)).map (Value.int .u64)))
  case atStart => exact ⟨0, Nat.zero_le _, rfl, rfl, HB.out, World.ownsRow_nil _ _ 22 1⟩
  case round =>
    obtain ⟨k, hk, rfl, rfl, b3, hown⟩ := hrel
    obtain ⟨a5, c5, rfl⟩ := own_shapeU hown
    by_cases hkn : k < n
    · obtain ⟨p, hp⟩ : ∃ p, L[k]? = some p := ⟨_, List.getElem?_eq_getElem (by rw [← HN.out]; exact hkn)⟩
      obtain ⟨g, o, rfl, c0, c1, c2, c3⟩ := (H0.out.below b3).le4 hp
      have hft := filter_takeG hp (fun x => x.2.fl)
      have hzl : ((L.take k).filter fun x => x.2.fl).length ≤ 1000 := Nat.le_trans (List.length_filter_le _ _) (by rw [List.length_take]; omega)
      obtain ⟨p0, x⟩ := p
      obtain ⟨x0, x1, x2⟩ := x
      generalize hR : ((L.take k).filter fun x => x.2.fl) = R at hown hft hzl
      generalize hz : R.length = z at hown hzl
      have HO := aside_of (And.intro hown (And.intro b3 hz))
      have hkn' : (k : Int) < (n : Int) := by omega
      clear hown b3 hR hz hp
      cases x2 with
      | true =>
        have HT := aside_of (show (L.take (k + 1)).filter (fun x => x.2.fl) = R ++ [(p0, ⟨x0, x1, true⟩)] by rw [hft]; simp)
        clear hft
        go_wp2_with (at_builtin; refine wpList_append_own _ rfl (.tmp 15) (.tmp 18) 33 rfl w.heap.size 22 i0 (.int .u64 0) 1 8 Tryz.underlying33 hi hz0 hz1 hz2 rfl (by decide) (.slice a5 z c5) z ((R.map (·.1)).map (Value.int .u64)) rfl (World.ownsRow.alloc (World.ownsRow.alloc HO.out.1 _) _) ⟨wr.heap.size + 1, 0, none⟩ 1 1 [.int .u64 p0] rfl rfl (by have := own_oneU (w := wr.alloc (.cells #[.int .u64 p0, .int .i64 x0, .int .u64 x1, .bool true] 151)) (.int .u64 p0) 22; rw [size_new] at this; exact this) (by simp [Value.oneCell']) (by unfold maxLen; omega) (by omega) (by have := HO.out.2.1.size; simp; omega) ?_; intro v7 w7 own7 gr7 _; have b7 : Below w.heap.size w w7 := ((HO.out.2.1.alloc HO.out.2.1.size _).alloc (by have := HO.out.2.1.size; simp; omega) _).trans (grown_ownU (by have := HO.out.2.1.size; simp; omega) (World.ownsRow.alloc (World.ownsRow.alloc HO.out.1 _) _) gr7); obtain ⟨a7, c7, rfl⟩ := own_shapeU own7)
        go_roundg (n - (k + 1))
        case measure => omega
        case rel =>
          have hlen : (R ++ [(p0, (⟨x0, x1, true⟩ : Le))]).length = z + 1 := by rw [List.length_append, HO.out.2.2]; rfl
          refine ⟨k + 1, by omega, rfl, by go_num, b7, ?_⟩
          rw [HT.out, hlen, List.map_append, List.map_append]
          exact own7
      | false =>
        have HT := aside_of (show (L.take (k + 1)).filter (fun x => x.2.fl) = R by rw [hft]; simp)
        clear hft
        go_wp2
        go_roundg (n - (k + 1))
        case measure => omega
        case rel =>
          refine ⟨k + 1, by omega, rfl, by go_num, HO.out.2.1.alloc HO.out.2.1.size _, ?_⟩
          rw [HT.out, HO.out.2.2]
          exact World.ownsRow.alloc HO.out.1 _
    · obtain rfl : k = n := by omega
      have ht : L.take k = L := by rw [HN.out, List.take_length]
      simp only [ht] at hown ⊢
      clear ht
      have HZ := aside_of (And.intro hown b3)
      have hl : (L.filter fun x => x.2.fl).length = ((L.filter fun x => x.2.fl).map (·.1)).length := by rw [List.length_map]
      have HL := aside_of hl
      clear hown b3 hl
      go_wp2
      go_ret
      refine ⟨a5, c5, _, by rw [← HL.out]; rfl, rfl, .of_own idE_len (base := w.heap.size) (e := 22) (n := ((L.filter fun x => x.2.fl).map (·.1)).length) ?_ rfl, HZ.out.2⟩
      rw [← HL.out, flat_id]
      exact HZ.out.1

theorem own_twoT (x y : Value) (e : TypeId) : ∀ (j : Nat) (u : Value), [x, y][j]? = some u → (w.alloc (.cells #[x, y] e)).cell? ((⟨w.heap.size, 0, none⟩ : Addr).add j) = some u := by
  intro j u hj
  match j with
  | 0 => simp at hj; subst hj; simp [Addr.add]
  | 1 => simp at hj; subst hj; simp [Addr.add]
  | j + 2 => simp at hj

set_option maxHeartbeats 1000000 in
set_option maxRecDepth 1000000 in
theorem rwithout_calls {T : List (Int × Int)} (h : SeqIn w 2 tmE aT cT T) (hm : T.length ≤ 1000) (id : Int) :
    Calls Tryz.prog 83 #[.slice aT T.length cT, .int .u64 id] w fun e w' => ∃ a cap b, e = .returned (.tuple #[.slice a (List.length (T.filter fun x => x.1 != id)) cap, .bool b]) ∧ SeqIn w' 2 tmE a cap (T.filter fun x => x.1 != id) ∧ NewA w a ∧ Below w.heap.size w w' := by
  obtain ⟨i0, hi, hz0, hz1, hz2⟩ := info_partsU infoT
  have H0 := aside_of h
  obtain ⟨n, hn⟩ : ∃ n, n = T.length := ⟨_, rfl⟩
  have HN := aside_of hn
  rw [← hn] at hm ⊢
  clear h hn
  go_enter Tryz.func83, Tryz.ntmps83
  go_wp2
  go_loopg [6, 7, 12] n (fun gh v6 v7 v12 wr => ∃ (k : Nat) (b : Bool), k ≤ n ∧ gh = n - k ∧ v12 = .int .i64 k ∧ v7 = .bool b ∧ Below w.heap.size w wr ∧ wr.ownsRow w.heap.size 243 2 v6 ((T.take k).filter fun x => x.1 != id).length (((T.take k).filter fun x => x.1 != id).flatMap tmE))
  case atStart => exact ⟨0, false, Nat.zero_le _, rfl, rfl, rfl, Below.refl _ _, World.ownsRow_nil _ _ 243 2⟩
  case round =>
    obtain ⟨k, b, hk, rfl, rfl, rfl, b3, hown⟩ := hrel
    obtain ⟨a5, c5, rfl⟩ := own_shapeU hown
    by_cases hkn : k < n
    · obtain ⟨p, hp⟩ : ∃ p, T[k]? = some p := ⟨_, List.getElem?_eq_getElem (by rw [← HN.out]; exact hkn)⟩
      obtain ⟨g, o, rfl, c0, c1⟩ := (H0.out.below b3).tm2 hp
      have hft := filter_takeG hp (fun x => x.1 != id)
      have hzl : ((T.take k).filter fun x => x.1 != id).length ≤ 1000 := Nat.le_trans (List.length_filter_le _ _) (by rw [List.length_take]; omega)
      obtain ⟨p0, p1⟩ := p
      generalize hR : ((T.take k).filter fun x => x.1 != id) = R at hown hft hzl
      have hRl := flatE_length tmE_len R
      have hR1 := flatE_one tmE_one R
      generalize hz : R.length = z at hown hzl hRl
      have HO := aside_of (And.intro hown (And.intro b3 (And.intro hz (And.intro hRl hR1))))
      have hkn' : (k : Int) < (n : Int) := by omega
      clear hown b3 hR hz hp hRl hR1
      by_cases e : p0 = id
      · obtain rfl := e
        have e' : (p0 == p0) = true := by simp
        have HT := aside_of (show (T.take (k + 1)).filter (fun x => x.1 != p0) = R by rw [hft]; simp)
        clear hft
        go_wp2
        go_roundg (n - (k + 1))
        case measure => omega
        case rel =>
          refine ⟨k + 1, true, by omega, rfl, by go_num, rfl, HO.out.2.1.alloc HO.out.2.1.size _, ?_⟩
          rw [HT.out, HO.out.2.2.1]
          exact World.ownsRow.alloc HO.out.1 _
      · have e' : (p0 == id) = false := by simpa using e
        have HT := aside_of (show (T.take (k + 1)).filter (fun x => x.1 != id) = R ++ [(p0, p1)] by rw [hft]; simp [e])
        clear hft
        go_wp2_with (at_builtin; refine wpList_append_own _ rfl (.tmp 20) (.tmp 22) 43 rfl w.heap.size 243 i0 (.agg #[.int .u64 0, .int .u64 0]) 2 16 Tryz.underlying43 hi hz0 hz1 hz2 rfl (by decide) (.slice a5 z c5) z (R.flatMap tmE) rfl (World.ownsRow.alloc (World.ownsRow.alloc HO.out.1 _) _) ⟨wr.heap.size + 1, 0, none⟩ 1 1 [.int .u64 p0, .int .u64 p1] rfl rfl (by have := own_twoT (w := wr.alloc (.cells #[.int .u64 p0, .int .u64 p1] 243)) (.int .u64 p0) (.int .u64 p1) 243; rw [size_new] at this; exact this) (by simp [Value.oneCell']) (by unfold maxLen; omega) (by omega) (by have := HO.out.2.1.size; simp; omega) ?_; intro v7 w7 own7 gr7 _; have b7 : Below w.heap.size w w7 := ((HO.out.2.1.alloc HO.out.2.1.size _).alloc (by have := HO.out.2.1.size; simp; omega) _).trans (grown_ownU (by have := HO.out.2.1.size; simp; omega) (World.ownsRow.alloc (World.ownsRow.alloc HO.out.1 _) _) gr7); obtain ⟨a7, c7, rfl⟩ := own_shapeU own7)
        go_roundg (n - (k + 1))
        case measure => omega
        case rel =>
          have hlen : (R ++ [(p0, p1)]).length = z + 1 := by rw [List.length_append, HO.out.2.2.1]; rfl
          refine ⟨k + 1, b, by omega, rfl, by go_num, rfl, b7, ?_⟩
          rw [HT.out, hlen, List.flatMap_append]
          exact own7
    · obtain rfl : k = n := by omega
      have ht : T.take k = T := by rw [HN.out, List.take_length]
      simp only [ht] at hown ⊢
      clear ht
      have HZ := aside_of (And.intro hown b3)
      clear hown b3
      go_wp2
      go_ret2
      exact ⟨a5, c5, b, rfl, .of_own tmE_len HZ.out.1 rfl, own_newA HZ.out.1 (Nat.le_refl _), HZ.out.2⟩

end Go.Proofs.YtbdnlaepeladbaaGreatDoor

namespace Go.Proofs.YtbdnlaepeladbaaGreatDoor
open Go.ChangeShapes Go.WideShapes Go.ChangeAt Go.RowKit Go.Eng

variable {w w' : World} {d : RK} {aL aM aT : Option Addr} {nL nM nT cL cM cT : Nat}

/-- What is due, and what is left. -/
def CutAt (T : List (Int × Int)) (now : Int) (k : Nat) : Prop := k ≤ T.length ∧ (∀ p ∈ T.take k, p.2 ≤ now) ∧ ∀ p, T[k]? = some p → now < p.2

def DueOut (w : World) (T : List (Int × Int)) (now : Int) (aT : Option Addr) (cT : Nat) (e : Ending) (w' : World) : Prop :=
  ∃ k aR cR aD cD, e = .returned (.tuple #[.slice aR (List.length (T.drop k)) cR, .slice aD (List.length ((T.take k).map (·.1))) cD]) ∧ CutAt T now k ∧ (∀ v, SeqIn v 2 tmE aT cT T → SeqIn v 2 tmE aR cR (T.drop k)) ∧ SeqIn w' 1 idE aD cD ((T.take k).map (·.1)) ∧ NewA w aD ∧ Below w.heap.size w w'

set_option maxHeartbeats 1000000 in
set_option maxRecDepth 1000000 in
theorem rdue_some {T : List (Int × Int)} {g o : Nat} (h : SeqIn w 2 tmE (some ⟨g, o, none⟩) cT T) (hm : T.length ≤ 1000) (now : Int) :
    Calls Tryz.prog 84 #[.slice (some ⟨g, o, none⟩) T.length cT, .int .u64 now] w fun e w' => DueOut w T now (some ⟨g, o, none⟩) cT e w' := by
  obtain ⟨i0, hi, hz0, hz1, hz2⟩ := info_partsU infoW
  have hcap := h.le
  have H0 := aside_of h
  obtain ⟨n, hn⟩ : ∃ n, n = T.length := ⟨_, rfl⟩
  have HN := aside_of hn
  rw [← hn] at hm hcap ⊢
  clear h hn
  go_enter Tryz.func84, Tryz.ntmps84
  go_wp2
  go_loopg [6, 7] n (fun gh v6 v7 wr => ∃ k : Nat, k ≤ n ∧ gh = n - k ∧ v7 = .int .i64 k ∧ Below w.heap.size w wr ∧ wr.ownsRow w.heap.size 22 1 v6 k (((T.take k).map (·.1)).map (Value.int .u64)) ∧ Aside (∀ p ∈ T.take k, p.2 ≤ now))
  case atStart => exact ⟨0, Nat.zero_le _, rfl, rfl, Below.refl _ _, World.ownsRow_nil _ _ 22 1, aside_of (by simp)⟩
  case round =>
    obtain ⟨k, hk, rfl, rfl, b3, hown, hle⟩ := hrel
    obtain ⟨a5, c5, rfl⟩ := own_shapeU hown
    have HO := aside_of (And.intro hown b3)
    have hS := H0.out.below b3
    clear hown b3
    have hlen : Aside (((T.take k).map (·.1)).length = k) := aside_of (by rw [List.length_map, List.length_take, ← HN.out]; omega)
    have FIN : Aside (∀ (e : Ending), (∀ p, T[k]? = some p → now < p.2) → e = .returned (.tuple #[.slice (some ⟨g, o + k * 2, none⟩) (n - k) (cT - k), .slice a5 k c5]) → DueOut w T now (some ⟨g, o, none⟩) cT e wr) := aside_of (by
      intro e hgt he
      refine ⟨k, _, _, a5, c5, by rw [he, hlen.out, List.length_drop, ← HN.out], ⟨by rw [← HN.out]; exact hk, hle.out, hgt⟩, (fun v hv => hv.drop k), .of_own idE_len (base := w.heap.size) (e := 22) (n := k) ?_ hlen.out.symm, own_newA HO.out.1 (Nat.le_refl _), HO.out.2⟩
      rw [flat_id]
      exact HO.out.1)
    by_cases hkn : k < n
    · obtain ⟨p, hp⟩ : ∃ p, T[k]? = some p := ⟨_, List.getElem?_eq_getElem (by rw [← HN.out]; exact hkn)⟩
      obtain ⟨g', o', e', c0, c1⟩ := hS.tm2 hp
      simp only [Option.some.injEq, Addr.mk.injEq, and_true] at e'
      obtain ⟨rfl, rfl⟩ := e'
      have HP := aside_of hp
      obtain ⟨p0, p1⟩ := p
      have hkn' : (k : Int) < (n : Int) := by omega
      clear hS hp
      by_cases hnow : p1 ≤ now
      · have hle8 : Aside (∀ p ∈ T.take (k + 1), p.2 ≤ now) := aside_of (by
          intro q hq
          rw [List.take_add_one, HP.out] at hq
          rcases List.mem_append.1 hq with h | h
          · exact hle.out q h
          · have : q = (p0, p1) := by simpa using h
            rw [this]; exact hnow)
        have hm8 : Aside (((T.take (k + 1)).map (·.1)).map (Value.int .u64) = ((T.take k).map (·.1)).map (Value.int .u64) ++ [.int .u64 p0]) := aside_of (by
          rw [List.take_add_one, HP.out, List.map_append, List.map_append]; rfl)
        go_wp2_with (at_builtin; refine wpList_append_own _ rfl (.tmp 21) (.tmp 27) 33 rfl w.heap.size 22 i0 (.int .u64 0) 1 8 Tryz.underlying33 hi hz0 hz1 hz2 rfl (by decide) (.slice a5 k c5) k (((T.take k).map (·.1)).map (Value.int .u64)) rfl (World.ownsRow.alloc HO.out.1 _) ⟨wr.heap.size, 0, none⟩ 1 1 [.int .u64 p0] rfl rfl (own_oneU _ _) (by simp [Value.oneCell']) (by unfold maxLen; omega) (by omega) (by have := HO.out.2.size; simp; omega) ?_; intro v7 w7 own7 gr7 _; have b7 : Below w.heap.size w w7 := (HO.out.2.alloc HO.out.2.size _).trans (grown_ownU (by have := HO.out.2.size; simp; omega) (World.ownsRow.alloc HO.out.1 _) gr7); obtain ⟨a7, c7, rfl⟩ := own_shapeU own7)
        go_roundg (n - (k + 1))
        case measure => omega
        case rel =>
          refine ⟨k + 1, by omega, rfl, by go_num, b7, ?_, hle8⟩
          rw [hm8.out]
          exact own7
      · go_wp2
        go_ret2
        exact FIN.out _ (fun q hq => by rw [HP.out] at hq; obtain rfl := Option.some.inj hq; omega) rfl
    · have hkn2 : k = n := by omega
      have hnone : Aside (∀ p, T[k]? = some p → now < p.2) := aside_of fun p hp => by
        have := (List.getElem?_eq_some_iff.1 hp).1
        rw [← HN.out] at this; omega
      have hkn' : ¬ (k : Int) < (n : Int) := by omega
      have FIN2 : Aside (∀ (c : Nat) (e : Ending), c = cT → e = .returned (.tuple #[.slice (some ⟨g, o, none⟩) (n - k) 0, .slice a5 k c5]) → DueOut w T now (some ⟨g, o, none⟩) c e wr) := aside_of (by
        intro c e hc he
        have hnil : T.drop k = [] := by rw [List.drop_eq_nil_iff, ← HN.out]; omega
        refine ⟨k, some ⟨g, o, none⟩, 0, a5, c5, by rw [he, hlen.out, List.length_drop, ← HN.out], ⟨by rw [← HN.out]; exact hk, hle.out, hnone.out⟩, (fun v hv => ?_), .of_own idE_len (base := w.heap.size) (e := 22) (n := k) ?_ hlen.out.symm, own_newA HO.out.1 (Nat.le_refl _), HO.out.2⟩
        · rw [hnil]
          exact ⟨Nat.le_refl _, (fun h => by cases h), (fun p hp => ⟨g, o, (Option.some.inj hp).symm⟩), (fun k x h => by simp at h)⟩
        · rw [flat_id]
          exact HO.out.1)
      clear hS hkn2
      go_wp2
      all_goals
        go_ret2
        first | exact FIN.out _ hnone.out rfl | exact FIN2.out _ _ (by omega) rfl

set_option maxRecDepth 1000000 in
theorem rdue_nil (w : World) (now : Int) :
    Calls Tryz.prog 84 #[.slice none 0 0, .int .u64 now] w fun e w' => e = .returned (.tuple #[.slice none 0 0, .slice none 0 0]) ∧ w' = w := by
  go_enter Tryz.func84, Tryz.ntmps84
  go_wp2
  refine wp_loop_rounds 1 ?_
  rw [rounds_succ]
  go_wp2
  go_ret2
  exact ⟨rfl, rfl⟩

theorem rdue_calls {T : List (Int × Int)} (h : SeqIn w 2 tmE aT cT T) (hm : T.length ≤ 1000) (now : Int) :
    Calls Tryz.prog 84 #[.slice aT T.length cT, .int .u64 now] w fun e w' => DueOut w T now aT cT e w' := by
  cases aT with
  | none =>
    obtain ⟨rfl, rfl⟩ := h.none_nil
    refine (rdue_nil w now).mono ?_
    rintro e w' ⟨rfl, rfl⟩
    exact ⟨0, none, 0, none, 0, rfl, ⟨Nat.le_refl _, by simp, by simp⟩, (fun _ _ => .nil), .nil, newA_nil, Below.refl _ _⟩
  | some p =>
    obtain ⟨g, o, rfl⟩ := h.plain p rfl
    exact rdue_some h hm now

end Go.Proofs.YtbdnlaepeladbaaGreatDoor

namespace Go.Proofs.YtbdnlaepeladbaaGreatDoor
open Go.ChangeShapes Go.WideShapes Go.ChangeAt Go.RowKit Go.Eng

variable {w w' : World} {d : RK} {aL aM aT : Option Addr} {nL nM nT cL cM cT : Nat}

set_option maxRecDepth 100000 in
theorem radd_calls (w : World) {a c : Int} (ha : U64 a) (hc : U64 c) :
    Calls Tryz.prog 165 #[.int .u64 a, .int .u64 c] w fun e w' => e = .returned (.int .u64 (addT a c)) ∧ w' = w := by
  obtain ⟨a0, a1⟩ := ha
  obtain ⟨c0, c1⟩ := hc
  have key : ∀ X : Int, X = addT a c → (Ending.returned (.int .u64 X)) = .returned (.int .u64 (addT a c)) := by rintro X rfl; rfl
  go_enter Tryz.func165, Tryz.ntmps165
  go_wp2
  all_goals
    go_ret
    exact ⟨key _ (by unfold addT maxT; omega), rfl⟩

/-- Ahead, by ticks, and then by keys. -/
def LtT (p q : Int × Int) : Prop := p.2 < q.2 ∨ (p.2 = q.2 ∧ p.1 < q.1)

/-- The place at which t goes in. -/
def InsAt (R : List (Int × Int)) (t : Int × Int) (k : Nat) : Prop := k ≤ R.length ∧ (∀ p ∈ R.take k, LtT p t) ∧ ∀ p, R[k]? = some p → ¬ LtT p t

def ArmOut (w : World) (R : List (Int × Int)) (key at' : Int) (e : Ending) (w' : World) : Prop :=
  ∃ k a cap, InsAt R (key, at') k ∧ e = .returned (.tuple #[.slice a (R.length + 1) cap, .int .i64 0]) ∧ SeqIn w' 2 tmE a cap (R.take k ++ (key, at') :: R.drop k) ∧ NewA w a ∧ Below w.heap.size w w'

theorem below_drewNL {B : Nat} {a b : World} (h : Below B a b) (n : Nat) : Below B a (b.drewN n) := ⟨h.os, h.tape, h.output, h.size, h.block⟩

set_option maxHeartbeats 2000000 in
set_option maxRecDepth 1000000 in
theorem rarm_calls {T : List (Int × Int)} (h : SeqIn w 2 tmE aT cT T) (hm : T.length ≤ 1000) (key : Int) {at0 : Int} (hat : U64 at0) :
    Calls Tryz.prog 86 #[.slice aT T.length cT, .int .u64 key, .int .u64 at0] w fun e w' => ArmOut w (T.filter fun x => x.1 != key) key (addT at0 0) e w' := by
  obtain ⟨i0, hi, hz0, hz1, hz2⟩ := info_partsU infoT
  have hw := rwithout_calls h hm key
  have ha := fun v => radd_calls v hat (c := 0) ⟨by omega, by omega⟩
  have hfl : (T.filter fun x => x.1 != key).length ≤ 1000 := Nat.le_trans (List.length_filter_le _ _) hm
  generalize (T.filter fun x => x.1 != key) = R at hw hfl ⊢
  generalize addT at0 0 = at' at ha ⊢
  obtain ⟨n, hn⟩ : ∃ n, n = R.length := ⟨_, rfl⟩
  have HN := aside_of hn
  rw [← hn] at hfl hw
  clear hn h hat
  generalize T.length = nT at *
  go_enter Tryz.func86, Tryz.ntmps86
  go_upto_block 0 with (first
    | (go_at_call 83; with_reducible refine hw.mono ?_; clear hw; rintro e w1 ⟨aR, cR, bR, he, hS, _, b1⟩; subst he)
    | (go_at_call 165; with_reducible refine (ha _).mono ?_; clear ha; rintro e w2 ⟨he, hw2⟩; subst he; subst hw2))
  have hcap := hS.le
  rw [← HN.out] at hcap
  have H0 := aside_of (And.intro hS b1)
  have hrow : ((w2.alloc (.cells #[.int .u64 key, .int .u64 at'] 243)).heap[w2.heap.size]? = some (.cells #[.int .u64 key, .int .u64 at'] 243 (0, 0))) := heap_new _ _
  have HB := aside_of (And.intro (below_alloc w2 (.cells #[.int .u64 key, .int .u64 at'] 243)) hrow)
  clear hS b1 hrow
  go_cut [11] (fun v11 wx => ∃ k : Nat, k ≤ n ∧ v11 = .int .i64 k ∧ Aside (InsAt R (key, at') k) ∧ Below (w2.heap.size + 1) (w2.alloc (.cells #[.int .u64 key, .int .u64 at'] 243)) wx)
  case first =>
    go_wp2
    go_loopg [11] n (fun gh v11 wr => ∃ k : Nat, k ≤ n ∧ gh = n - k ∧ v11 = .int .i64 k ∧ Aside (∀ p ∈ R.take k, LtT p (key, at')) ∧ Below (w2.heap.size + 1) (w2.alloc (.cells #[.int .u64 key, .int .u64 at'] 243)) wr)
    case atStart => exact ⟨0, Nat.zero_le _, rfl, rfl, aside_of (by simp), Below.refl _ _⟩
    case round =>
      obtain ⟨k, hk, rfl, rfl, hlt, b3⟩ := hrel
      have hrow := (b3.block w2.heap.size (Nat.lt_succ_self _)).trans HB.out.2
      have r0 : wr.cell? ⟨w2.heap.size, 0, none⟩ = some (.int .u64 key) := by simp [World.cell?, hrow]
      have r1 : wr.cell? ⟨w2.heap.size, 1, none⟩ = some (.int .u64 at') := by simp [World.cell?, hrow]
      have bb : Below w2.heap.size w2 wr := HB.out.1.trans (b3.mono (Nat.le_succ _))
      clear hrow
      by_cases hkn : k < n
      · obtain ⟨p, hp⟩ : ∃ p, R[k]? = some p := ⟨_, List.getElem?_eq_getElem (by rw [← HN.out]; exact hkn)⟩
        obtain ⟨g, o, rfl, c0, c1⟩ := (H0.out.1.below bb).tm2 hp
        have HP := aside_of hp
        obtain ⟨p0, p1⟩ := p
        have hkn' : (k : Int) < (n : Int) := by omega
        have hle8 : Aside (LtT (p0, p1) (key, at') → ∀ p ∈ R.take (k + 1), LtT p (key, at')) := aside_of (by
          intro hl q hq
          rw [List.take_add_one, HP.out] at hq
          rcases List.mem_append.1 hq with h | h
          · exact hlt.out q h
          · have : q = (p0, p1) := by simpa using h
            rw [this]; exact hl)
        have HB3 := aside_of b3
        clear hp bb b3
        have HDR : Aside (∀ nq, Below (w2.heap.size + 1) (w2.alloc (.cells #[.int .u64 key, .int .u64 at'] 243)) (wr.drewN nq)) := aside_of fun nq => below_drewNL HB3.out nq
        by_cases h1 : p1 < at'
        · have HL := aside_of (show LtT (p0, p1) (key, at') from .inl h1)
          have d1 : decide (p1 < at') = true := decide_eq_true h1
          clear h1
          · go_wp2
            go_quiet (fail)
            try go_wp2
            go_roundg (n - (k + 1))
            case measure => omega
            case rel => exact ⟨k + 1, by omega, rfl, by go_num, aside_of (hle8.out HL.out), HDR.out _⟩
        · have d1 : decide (p1 < at') = false := decide_eq_false h1
          by_cases h2 : p1 = at'
          · have d2 : (p1 == at') = true := beq_iff_eq.mpr h2
            by_cases h3 : p0 < key
            · have HL := aside_of (show LtT (p0, p1) (key, at') from .inr ⟨h2, h3⟩)
              have d3 : decide (p0 < key) = true := decide_eq_true h3
              clear h1 h2 h3
              · go_wp2
                go_quiet (fail)
                try go_wp2
                go_roundg (n - (k + 1))
                case measure => omega
                case rel => exact ⟨k + 1, by omega, rfl, by go_num, aside_of (hle8.out HL.out), HDR.out _⟩
            · have FI := aside_of (show InsAt R (key, at') k from ⟨by rw [← HN.out]; exact hk, hlt.out, fun q hq => by rw [HP.out] at hq; obtain rfl := Option.some.inj hq; unfold LtT; simp only; omega⟩)
              have d3 : decide (p0 < key) = false := decide_eq_false h3
              clear h1 h2 h3
              · go_wp2
                go_quiet (fail)
                try go_wp2
                go_meet
                exact ⟨k, by omega, rfl, aside_of FI.out, HDR.out _⟩
          · have FI := aside_of (show InsAt R (key, at') k from ⟨by rw [← HN.out]; exact hk, hlt.out, fun q hq => by rw [HP.out] at hq; obtain rfl := Option.some.inj hq; unfold LtT; simp only; omega⟩)
            have d2 : (p1 == at') = false := beq_eq_false_iff_ne.mpr h2
            clear h1 h2
            · go_wp2
              go_quiet (fail)
              try go_wp2
              go_meet
              exact ⟨k, by omega, rfl, aside_of FI.out, HDR.out _⟩
      · obtain rfl : k = n := by omega
        have FI := aside_of (show InsAt R (key, at') k from ⟨by rw [← HN.out]; omega, hlt.out, fun q hq => by
          have := (List.getElem?_eq_some_iff.1 hq).1
          rw [← HN.out] at this; omega⟩)
        have HDR : Aside (∀ nq, Below (w2.heap.size + 1) (w2.alloc (.cells #[.int .u64 key, .int .u64 at'] 243)) (wr.drewN nq)) := aside_of fun nq => below_drewNL b3 nq
        clear b3 bb hkn
        go_wp2
        go_quiet (fail)
        try go_wp2
        go_meet
        exact ⟨k, by omega, rfl, aside_of FI.out, HDR.out _⟩
  case rest =>
    obtain ⟨k, hk, rfl, HI, b3⟩ := hcut
    have hrow := (b3.block w2.heap.size (Nat.lt_succ_self _)).trans HB.out.2
    have r0 : wc.cell? ⟨w2.heap.size, 0, none⟩ = some (.int .u64 key) := by simp [World.cell?, hrow]
    have r1 : wc.cell? ⟨w2.heap.size, 1, none⟩ = some (.int .u64 at') := by simp [World.cell?, hrow]
    have bb : Below w2.heap.size w2 wc := HB.out.1.trans (b3.mono (Nat.le_succ _))
    have hS := H0.out.1.below bb
    have b0 : Below w.heap.size w wc := H0.out.2.trans (bb.mono H0.out.2.size)
    have hszx : w2.heap.size < wc.heap.size := (Array.getElem?_eq_some_iff.1 hrow).1
    have HRow := aside_of hrow
    clear hrow bb b3 H0 HB
    cases aR with
    | none =>
      obtain ⟨hR, hc0⟩ := hS.none_nil
      have hn0 : n = 0 := by rw [HN.out, hR]; rfl
      have hk0 : k = 0 := by omega
      subst hc0
      subst hk0
      subst hn0
      have H1 := aside_of (And.intro hR b0)
      clear hS b0 hR
      go_wp2_with (first
        | (at_builtin; refine wpList_append_own_none rfl (.tmp 62) (.tmp 65) 43 rfl wc.heap.size 243 i0 2 Tryz.underlying43 hi (.slice none 0 0) 0 [] rfl (World.ownsRow_nil wc _ 243 2) rfl ?_)
        | (at_builtin; refine wpList_append_own _ rfl (.tmp 67) (.tmp 69) 43 rfl wc.heap.size 243 i0 (.agg #[.int .u64 0, .int .u64 0]) 2 16 Tryz.underlying43 hi hz0 hz1 hz2 rfl (by decide) (.slice none 0 0) 0 [] rfl (World.ownsRow.alloc (World.ownsRow_nil wc wc.heap.size 243 2) _) ⟨wc.heap.size, 0, none⟩ 1 1 [.int .u64 key, .int .u64 at'] rfl rfl (own_twoT _ _ _) (by simp [Value.oneCell']) (by unfold maxLen; omega) (by omega) (by simp) ?_; intro v7 w7 own7 gr7 _; have b7 : Below wc.heap.size wc w7 := (below_alloc wc _).trans (grown_ownU (by simp) (World.ownsRow.alloc (World.ownsRow_nil wc wc.heap.size 243 2) _) gr7); obtain ⟨a7, c7, rfl⟩ := own_shapeU own7; have OX := aside_of (And.intro own7 b7); clear own7 b7 r0 r1)
        | (at_builtin; refine wpList_append_own_none rfl (.tmp 71) (.tmp 74) 43 rfl wc.heap.size 243 i0 2 Tryz.underlying43 hi (.slice a7 1 c7) 1 ([] ++ [.int .u64 key, .int .u64 at']) rfl OX.out.1 rfl ?_))
      all_goals
        go_ret2
        refine ⟨0, a7, c7, HI.out, by rw [H1.out.1]; rfl, .of_own tmE_len (base := wc.heap.size) (e := 243) (n := 1) ?_ (by rw [H1.out.1]; rfl), own_newA OX.out.1 H1.out.2.size, H1.out.2.trans (OX.out.2.mono H1.out.2.size)⟩
        rw [H1.out.1]
        exact OX.out.1
    | some p =>
      obtain ⟨g, o, rfl⟩ := hS.plain p rfl
      have H1 := aside_of (And.intro hS b0)
      have hlk : (R.take k).length = k := by rw [List.length_take, ← HN.out]; omega
      have hld : (R.drop k).length = n - k := by rw [List.length_drop, ← HN.out]
      have f1 : Aside (((R.take k).flatMap tmE).length = k * 2) := aside_of (by rw [flatE_length tmE_len, hlk])
      have f2 : Aside (((R.drop k).flatMap tmE).length = (n - k) * 2) := aside_of (by rw [flatE_length tmE_len, hld])
      have HL := aside_of (And.intro hlk hld)
      have HS1 := (hS.take k).src tmE_len (by decide)
      have HK := aside_of HS1
      clear hS b0 hlk hld HS1
      go_upto_region 11 with (first
        | (at_builtin; refine wpList_append_own _ rfl (.tmp 62) (.tmp 65) 43 rfl wc.heap.size 243 i0 (.agg #[.int .u64 0, .int .u64 0]) 2 16 Tryz.underlying43 hi hz0 hz1 hz2 rfl (by decide) (.slice none 0 0) 0 [] rfl (World.ownsRow_nil wc _ 243 2) ⟨g, o, none⟩ k cR ((R.take k).flatMap tmE) rfl f1.out HK.out (flatE_one tmE_one _) (by unfold maxLen; omega) (by omega) (Nat.le_refl _) ?_; intro v4 w4 own4 gr4 _; rw [List.nil_append, Nat.zero_add] at own4; obtain ⟨a4, c4, rfl⟩ := own_shapeU own4; have b4 : Below wc.heap.size wc w4 := grown_ownU (Nat.le_refl _) (World.ownsRow_nil wc wc.heap.size 243 2) gr4; have OW := aside_of (And.intro own4 b4); have hrow4 := (b4.block w2.heap.size hszx).trans HRow.out; have s0 : w4.cell? ⟨w2.heap.size, 0, none⟩ = some (.int .u64 key) := (by simp [World.cell?, hrow4]); have s1 : w4.cell? ⟨w2.heap.size, 1, none⟩ = some (.int .u64 at') := (by simp [World.cell?, hrow4]); clear own4 b4 hrow4 r0 r1)
        | (at_builtin; refine wpList_append_own _ rfl (.tmp 67) (.tmp 69) 43 rfl wc.heap.size 243 i0 (.agg #[.int .u64 0, .int .u64 0]) 2 16 Tryz.underlying43 hi hz0 hz1 hz2 rfl (by decide) (.slice a4 k c4) k ((R.take k).flatMap tmE) rfl (World.ownsRow.alloc OW.out.1 _) ⟨w4.heap.size, 0, none⟩ 1 1 [.int .u64 key, .int .u64 at'] rfl rfl (own_twoT _ _ _) (by simp [Value.oneCell']) (by unfold maxLen; omega) (by omega) (by have := OW.out.2.size; simp; omega) ?_; intro v7 w7 own7 gr7 _; have b7 : Below wc.heap.size wc w7 := (OW.out.2.alloc OW.out.2.size _).trans (grown_ownU (by have := OW.out.2.size; simp; omega) (World.ownsRow.alloc OW.out.1 _) gr7); obtain ⟨a7, c7, rfl⟩ := own_shapeU own7; have OX := aside_of (And.intro own7 b7); have HK7 := aside_of (((H1.out.1.below b7).drop k).src tmE_len (by decide)); clear own7 b7 s0 s1))
      by_cases hc : cR = k
      · obtain rfl := hc
        obtain rfl : n = cR := by omega
        have hd0 : R.drop n = [] := List.drop_eq_nil_of_le (by rw [← HN.out]; exact Nat.le_refl _)
        have HD := aside_of hd0
        clear hd0
        go_wp2_with (at_builtin; refine wpList_append_own _ rfl (.tmp 71) (.tmp 74) 43 rfl wc.heap.size 243 i0 (.agg #[.int .u64 0, .int .u64 0]) 2 16 Tryz.underlying43 hi hz0 hz1 hz2 rfl (by decide) (.slice a7 (n + 1) c7) (n + 1) ((R.take n).flatMap tmE ++ [.int .u64 key, .int .u64 at']) rfl OX.out.1 ⟨g, o, none⟩ 0 0 [] rfl rfl (fun j u hj => by simp at hj) (by simp) (by unfold maxLen; omega) (by omega) OX.out.2.size ?_; intro v9 w9 own9 gr9 _; have b9 : Below wc.heap.size wc w9 := OX.out.2.trans (grown_ownU OX.out.2.size OX.out.1 gr9); obtain ⟨a9, c9, rfl⟩ := own_shapeU own9; have OY := aside_of (And.intro own9 b9); clear own9 b9)
        go_ret2
        refine ⟨n, a9, c9, HI.out, by rw [← HN.out]; rfl, .of_own tmE_len (base := wc.heap.size) (e := 243) (n := n + 1 + 0) ?_ ?_, own_newA OY.out.1 H1.out.2.size, H1.out.2.trans (OY.out.2.mono H1.out.2.size)⟩
        · have := OY.out.1
          rw [List.append_nil] at this
          rw [HD.out, List.flatMap_append, List.flatMap_cons]
          exact this
        · rw [List.length_append, List.length_cons, HL.out.1, HD.out]; rfl
      · go_wp2_with (at_builtin; refine wpList_append_own _ rfl (.tmp 71) (.tmp 74) 43 rfl wc.heap.size 243 i0 (.agg #[.int .u64 0, .int .u64 0]) 2 16 Tryz.underlying43 hi hz0 hz1 hz2 rfl (by decide) (.slice a7 (k + 1) c7) (k + 1) ((R.take k).flatMap tmE ++ [.int .u64 key, .int .u64 at']) rfl OX.out.1 ⟨g, o + k * 2, none⟩ (n - k) (cR - k) ((R.drop k).flatMap tmE) rfl f2.out HK7.out (flatE_one tmE_one _) (by unfold maxLen; omega) (by omega) OX.out.2.size ?_; intro v9 w9 own9 gr9 _; have b9 : Below wc.heap.size wc w9 := OX.out.2.trans (grown_ownU OX.out.2.size OX.out.1 gr9); obtain ⟨a9, c9, rfl⟩ := own_shapeU own9; have OY := aside_of (And.intro own9 b9); clear own9 b9)
        go_ret2
        have e1 : k + 1 + (n - k) = n + 1 := by omega
        refine ⟨k, a9, c9, HI.out, by rw [← HN.out, ← e1]; rfl, .of_own tmE_len (base := wc.heap.size) (e := 243) (n := k + 1 + (n - k)) ?_ ?_, own_newA OY.out.1 H1.out.2.size, H1.out.2.trans (OY.out.2.mono H1.out.2.size)⟩
        · rw [List.flatMap_append, List.flatMap_cons, ← List.append_assoc]
          exact OY.out.1
        · rw [List.length_append, List.length_cons, HL.out.1, HL.out.2]; omega

end Go.Proofs.YtbdnlaepeladbaaGreatDoor

namespace Go.Proofs.YtbdnlaepeladbaaGreatDoor
open Go.ChangeShapes Go.WideShapes Go.ChangeAt Go.RowKit Go.Eng

/-- A book of the document's lies in block X. -/
def RowB (w : World) (X : Nat) (lk : Int) (vL vM vT : Value) : Prop := w.heap[X]? = some (.cells #[.int .u64 lk, vL, vM, vT] 45 (0, 0))

variable {w w' v v' : World} {lk : Int} {vL vM vT vL' vM' vT' : Value} {X : Nat}
theorem RowB.q0 (h : RowB w X lk vL vM vT) : w.cell? ⟨X, 0, none⟩ = some (.int .u64 lk) := by unfold RowB at h; simp [World.cell?, h]
theorem RowB.q1 (h : RowB w X lk vL vM vT) : w.cell? ⟨X, 1, none⟩ = some vL := by unfold RowB at h; simp [World.cell?, h]
theorem RowB.q2 (h : RowB w X lk vL vM vT) : w.cell? ⟨X, 2, none⟩ = some vM := by unfold RowB at h; simp [World.cell?, h]
theorem RowB.q3 (h : RowB w X lk vL vM vT) : w.cell? ⟨X, 3, none⟩ = some vT := by unfold RowB at h; simp [World.cell?, h]
theorem RowB.fz (h : RowB w X lk vL vM vT) (k : Nat) : w.frozen? ⟨X, k, none⟩ = false := by unfold RowB at h; simp [World.frozen?, h]
theorem RowB.lt (h : RowB w X lk vL vM vT) : X < w.heap.size := (Array.getElem?_eq_some_iff.1 h).1
theorem RowB.below {B : Nat} (h : RowB w X lk vL vM vT) (hb : Below B w w') (hX : X < B) : RowB w' X lk vL vM vT := (hb.block X hX).trans h
theorem RowB.new (w : World) (lk : Int) (vL vM vT : Value) : RowB (w.alloc (.cells #[.int .u64 lk, vL, vM, vT] 45)) w.heap.size lk vL vM vT := heap_new _ _
theorem RowB.set0 (h : RowB w X lk vL vM vT) (u : Int) : RowB (w.setCell ⟨X, 0, none⟩ (.int .u64 u)) X u vL vM vT := by
  have hl := h.lt
  unfold RowB at h ⊢
  rw [setCell_cells h]; simp [hl]
theorem RowB.set1 (h : RowB w X lk vL vM vT) (u : Value) : RowB (w.setCell ⟨X, 1, none⟩ u) X lk u vM vT := by
  have hl := h.lt
  unfold RowB at h ⊢
  rw [setCell_cells h]; simp [hl]
theorem RowB.set2 (h : RowB w X lk vL vM vT) (u : Value) : RowB (w.setCell ⟨X, 2, none⟩ u) X lk vL u vT := by
  have hl := h.lt
  unfold RowB at h ⊢
  rw [setCell_cells h]; simp [hl]
theorem RowB.set3 (h : RowB w X lk vL vM vT) (u : Value) : RowB (w.setCell ⟨X, 3, none⟩ u) X lk vL vM u := by
  have hl := h.lt
  unfold RowB at h ⊢
  rw [setCell_cells h]; simp [hl]
theorem RowB.off {p : Addr} (h : RowB w X lk vL vM vT) (hp : X ≠ p.block) (u : Value) : RowB (w.setCell p u) X lk vL vM vT := by
  unfold RowB at h ⊢
  rw [Below.heap_setCell _ _ _ _ hp]; exact h

/-- A function's frame: the boxed book in X, the result's place behind it. -/
structure TwoB (w : World) (lk : Int) (vL vM vT : Value) (X : Nat) (v : World) : Prop where
  low : Below X w v
  box : RowB v X lk vL vM vT
  res : RowB v (X + 1) 0 (.slice none 0 0) (.slice none 0 0) (.slice none 0 0)
  gt : X + 1 < v.heap.size

theorem TwoB.start (w : World) (lk : Int) (vL vM vT : Value) : TwoB w lk vL vM vT w.heap.size ((w.alloc (.cells #[.int .u64 lk, vL, vM, vT] 45)).alloc (.cells #[.int .u64 0, .slice none 0 0, .slice none 0 0, .slice none 0 0] 45)) := by
  refine ⟨(below_alloc w _).alloc (by simp) _, (RowB.new w lk vL vM vT).below (below_alloc _ _) (by simp), ?_, by simp⟩
  have := RowB.new (w.alloc (.cells #[.int .u64 lk, vL, vM, vT] 45)) 0 (.slice none 0 0) (.slice none 0 0) (.slice none 0 0)
  simpa using this

theorem TwoB.below (h : TwoB w lk vL vM vT X v) (hb : Below v.heap.size v v') : TwoB w lk vL vM vT X v' :=
  ⟨h.low.trans (hb.mono (by have := h.gt; omega)), h.box.below hb h.box.lt, h.res.below hb h.res.lt, Nat.lt_of_lt_of_le h.gt hb.size⟩
theorem TwoB.belowB {B : Nat} (h : TwoB w lk vL vM vT X v) (hb : Below B v v') (hB : X + 1 < B) : TwoB w lk vL vM vT X v' :=
  ⟨h.low.trans (hb.mono (by omega)), h.box.below hb (by omega), h.res.below hb hB, Nat.lt_of_lt_of_le h.gt hb.size⟩
theorem TwoB.put0 (h : TwoB w lk vL vM vT X v) (u : Int) : TwoB w u vL vM vT X (v.setCell ⟨X, 0, none⟩ (.int .u64 u)) := ⟨h.low.setCell (Nat.le_refl _) _, h.box.set0 u, h.res.off (by simp) _, by simpa using h.gt⟩
theorem TwoB.put1 (h : TwoB w lk vL vM vT X v) (u : Value) : TwoB w lk u vM vT X (v.setCell ⟨X, 1, none⟩ u) := ⟨h.low.setCell (Nat.le_refl _) _, h.box.set1 u, h.res.off (by simp) _, by simpa using h.gt⟩
theorem TwoB.put2 (h : TwoB w lk vL vM vT X v) (u : Value) : TwoB w lk vL u vT X (v.setCell ⟨X, 2, none⟩ u) := ⟨h.low.setCell (Nat.le_refl _) _, h.box.set2 u, h.res.off (by simp) _, by simpa using h.gt⟩
theorem TwoB.put3 (h : TwoB w lk vL vM vT X v) (u : Value) : TwoB w lk vL vM u X (v.setCell ⟨X, 3, none⟩ u) := ⟨h.low.setCell (Nat.le_refl _) _, h.box.set3 u, h.res.off (by simp) _, by simpa using h.gt⟩

/-- The world behind the result's store. -/
def outB (v : World) (X : Nat) (lk : Int) (vL vM vT : Value) : World := (((v.setCell ⟨X + 1, 0, none⟩ (.int .u64 lk)).setCell ⟨X + 1, 1, none⟩ vL).setCell ⟨X + 1, 2, none⟩ vM).setCell ⟨X + 1, 3, none⟩ vT
theorem TwoB.out (h : TwoB w lk vL vM vT X v) : RowB (outB v X lk vL vM vT) (X + 1) lk vL vM vT ∧ Below X w (outB v X lk vL vM vT) ∧ (∀ g, g ≠ X + 1 → (outB v X lk vL vM vT).heap[g]? = v.heap[g]?) :=
  ⟨(((h.res.set0 lk).set1 vL).set2 vM).set3 vT, (((h.low.setCell (by simp) _).setCell (by simp) _).setCell (by simp) _).setCell (by simp) _, fun g hg => by
    unfold outB
    rw [Below.heap_setCell _ _ _ _ hg, Below.heap_setCell _ _ _ _ hg, Below.heap_setCell _ _ _ _ hg, Below.heap_setCell _ _ _ _ hg]⟩

/-- Rows that lie behind the two boxes. -/
def Far (a : Option Addr) (X : Nat) : Prop := ∀ g o, a = some ⟨g, o, none⟩ → X + 2 ≤ g

theorem SeqIn.low {α : Type} {enc : α → List Value} {sz : Nat} {a : Option Addr} {cap : Nat} {xs : List α} (h : SeqIn w sz enc a cap xs) (hb : Below X w v) (hX : w.heap.size ≤ X) : SeqIn v sz enc a cap xs :=
  h.below (hb.mono hX)

theorem SeqIn.far {α : Type} {enc : α → List Value} {sz : Nat} {a : Option Addr} {cap : Nat} {xs : List α} (h : SeqIn w sz enc a cap xs) (hf : Far a X) (hb : ∀ g, X + 2 ≤ g → w'.heap[g]? = w.heap[g]?) : SeqIn w' sz enc a cap xs :=
  h.same fun g o p u e hc => by
    have := hb g (hf g o e)
    simp only [World.cell?] at hc ⊢
    rw [this]; exact hc

theorem own_far {base size n c : Nat} {e : TypeId} {a : Option Addr} {xs : List Value} (h : w.ownsRow base e size (.slice a n c) n xs) (hX : X + 2 ≤ base) : Far a X := by
  intro g o ha
  rcases h.2 with ⟨h1, _⟩ | ⟨g', cap, cur, h1, hg, _⟩
  · simp only [Value.slice.injEq] at h1
    rw [h1.1] at ha; cases ha
  · simp only [Value.slice.injEq] at h1
    rw [h1.1] at ha
    simp only [Option.some.injEq, Addr.mk.injEq, and_true] at ha
    omega

theorem far_put (v : World) (k : Nat) (u : Value) : ∀ g, X + 2 ≤ g → (v.setCell ⟨X, k, none⟩ u).heap[g]? = v.heap[g]? := fun g h => Below.heap_setCell _ _ _ _ (by show g ≠ X; omega)
theorem TwoB.far_out (h : TwoB w lk vL vM vT X v) : ∀ g, X + 2 ≤ g → (outB v X lk vL vM vT).heap[g]? = v.heap[g]? := fun g hg => h.out.2.2 g (by omega)
theorem far_nil : Far none X := fun g o h => by cases h

end Go.Proofs.YtbdnlaepeladbaaGreatDoor

namespace Go.Proofs.YtbdnlaepeladbaaGreatDoor
open Go.ChangeShapes Go.WideShapes Go.ChangeAt Go.RowKit Go.Eng

variable {w w' : World} {d : RK} {aL aM aT : Option Addr} {nL nM nT cL cM cT : Nat}

/-- What the document's acts hand back. -/
def BackB (w : World) (d : RK) (e : Ending) (w' : World) : Prop :=
  ∃ aL cL aM cM aT cT, e = .returned (rbV d.leak aL d.L.length cL aM d.M.length cM aT d.T.length cT) ∧ RbAt w' d aL aM aT cL cM cT ∧ Below w.heap.size w w'
def BackF (w : World) (d : RK) (f : Int) (e : Ending) (w' : World) : Prop :=
  ∃ aL cL aM cM aT cT, e = .returned (.tuple #[rbV d.leak aL d.L.length cL aM d.M.length cM aT d.T.length cT, .int .i64 f]) ∧ RbAt w' d aL aM aT cL cM cT ∧ Below w.heap.size w w'

theorem own_same {base size n : Nat} {e : TypeId} {v : Value} {xs : List Value} (h : w.ownsRow base e size v n xs) (hb : ∀ g, base ≤ g → w'.heap[g]? = w.heap[g]?) : w'.ownsRow base e size v n xs := by
  refine ⟨h.1, ?_⟩
  rcases h.2 with hn | ⟨g, cap, cur, h1, h2, h3, h4⟩
  · exact .inl hn
  · exact .inr ⟨g, cap, cur, h1, h2, (hb g h2).trans h3, h4⟩

set_option maxHeartbeats 1000000 in
set_option maxRecDepth 1000000 in
theorem rforget_calls (h : RbAt w d aL aM aT cL cM cT) (hm : d.M.length ≤ 1000) (id : Int) :
    Calls Tryz.prog 24 #[rbV d.leak aL d.L.length cL aM d.M.length cM aT d.T.length cT, .int .u64 id] w fun e w' => ∃ aM' cM', e = .returned (rbV d.leak aL d.L.length cL aM' (d.M.filter fun x => x != id).length cM' aT d.T.length cT) ∧ w'.ownsRow w.heap.size 22 1 (.slice aM' (d.M.filter fun x => x != id).length cM') (d.M.filter fun x => x != id).length ((d.M.filter fun x => x != id).map (Value.int .u64)) ∧ Below w.heap.size w w' := by
  obtain ⟨i0, hi, hz0, hz1, hz2⟩ := info_partsU infoW
  obtain ⟨lk, L, M, T⟩ := d
  have H0 := aside_of h.m
  simp only at hm H0 ⊢
  generalize L.length = nL
  generalize T.length = nT
  obtain ⟨n, hn⟩ : ∃ n, n = M.length := ⟨_, rfl⟩
  have HN := aside_of hn
  rw [← hn] at hm ⊢
  clear h hn
  have T1 := TwoB.start w lk (.slice aL nL cL) (.slice aM n cM) (.slice aT nT cT)
  obtain ⟨w1, hw1⟩ : ∃ w1, w1 = (w.alloc (.cells #[.int .u64 lk, .slice aL nL cL, .slice aM n cM, .slice aT nT cT] 45)).alloc (.cells #[.int .u64 0, .slice none 0 0, .slice none 0 0, .slice none 0 0] 45) := ⟨_, rfl⟩
  have s1 : w1.heap.size = w.heap.size + 2 := by rw [hw1]; simp
  rw [← hw1] at T1
  have HT := aside_of (And.intro T1 s1)
  clear s1
  subst hw1
  go_enter Tryz.func24, Tryz.ntmps24
  go_upto_block 0 with fail
  generalize ((w.alloc (.cells #[.int .u64 lk, .slice aL nL cL, .slice aM n cM, .slice aT nT cT] 45)).alloc (.cells #[.int .u64 0, .slice none 0 0, .slice none 0 0, .slice none 0 0] 45)) = w1 at HT T1 ⊢
  go_cut [5] (fun v5 wx => ∃ a5 c5, v5 = .slice a5 (List.length (M.filter fun x => x != id)) c5 ∧ Below w1.heap.size w1 wx ∧ Aside (wx.ownsRow w1.heap.size 22 1 (.slice a5 (List.length (M.filter fun x => x != id)) c5) (List.length (M.filter fun x => x != id)) ((M.filter fun x => x != id).map (Value.int .u64))))
  case first =>
    clear T1
    go_wp2
    go_loopg [5, 11] n (fun gh v5 v11 wr => ∃ k : Nat, k ≤ n ∧ gh = n - k ∧ v11 = .int .i64 k ∧ Below w1.heap.size w1 wr ∧ wr.ownsRow w1.heap.size 22 1 v5 ((M.take k).filter fun x => x != id).length (((M.take k).filter fun x => x != id).map (Value.int .u64)))
    case atStart => exact ⟨0, Nat.zero_le _, rfl, rfl, Below.refl _ _, World.ownsRow_nil _ _ 22 1⟩
    case round =>
      obtain ⟨k, hk, rfl, rfl, b3, hown⟩ := hrel
      obtain ⟨a5, c5, rfl⟩ := own_shapeU hown
      by_cases hkn : k < n
      · obtain ⟨p, hp⟩ : ∃ p, M[k]? = some p := ⟨_, List.getElem?_eq_getElem (by rw [← HN.out]; exact hkn)⟩
        have b1 : Below w.heap.size w wr := (HT.out.1.low).trans (b3.mono (by rw [HT.out.2]; omega))
        obtain ⟨g, o, rfl, c0⟩ := (H0.out.below b1).id1 hp
        have hft := filter_takeG hp (fun x => x != id)
        have hzl : ((M.take k).filter fun x => x != id).length ≤ 1000 := Nat.le_trans (List.length_filter_le _ _) (by rw [List.length_take]; omega)
        generalize hR : ((M.take k).filter fun x => x != id) = R at hown hft hzl
        generalize hz : R.length = z at hown hzl
        have HO := aside_of (And.intro hown (And.intro b3 hz))
        have hkn' : (k : Int) < (n : Int) := by omega
        clear hown b3 hR hz hp b1
        by_cases e : p = id
        · obtain rfl := e
          have e' : (p != p) = false := by simp
          have HF := aside_of (show (M.take (k + 1)).filter (fun x => x != p) = R by rw [hft]; simp)
          clear hft
          go_wp2
          go_roundg (n - (k + 1))
          case measure => omega
          case rel =>
            refine ⟨k + 1, by omega, rfl, by go_num, HO.out.2.1, ?_⟩
            rw [HF.out, HO.out.2.2]
            exact HO.out.1
        · have e' : (p != id) = true := by simpa using e
          have HF := aside_of (show (M.take (k + 1)).filter (fun x => x != id) = R ++ [p] by rw [hft]; simp [e])
          clear hft
          go_wp2_with (at_builtin; refine wpList_append_own _ rfl (.tmp 18) (.tmp 20) 33 rfl w1.heap.size 22 i0 (.int .u64 0) 1 8 Tryz.underlying33 hi hz0 hz1 hz2 rfl (by decide) (.slice a5 z c5) z (R.map (Value.int .u64)) rfl (World.ownsRow.alloc HO.out.1 _) ⟨wr.heap.size, 0, none⟩ 1 1 [.int .u64 p] rfl rfl (own_oneU _ _) (by simp [Value.oneCell']) (by unfold maxLen; omega) (by omega) (by have := HO.out.2.1.size; simp; omega) ?_; intro v7 w7 own7 gr7 _; have b7 : Below w1.heap.size w1 w7 := (HO.out.2.1.alloc HO.out.2.1.size _).trans (grown_ownU (by have := HO.out.2.1.size; simp; omega) (World.ownsRow.alloc HO.out.1 _) gr7); obtain ⟨a7, c7, rfl⟩ := own_shapeU own7)
          go_roundg (n - (k + 1))
          case measure => omega
          case rel =>
            have hlen : (R ++ [p]).length = z + 1 := by rw [List.length_append, HO.out.2.2]; rfl
            refine ⟨k + 1, by omega, rfl, by go_num, b7, ?_⟩
            rw [HF.out, hlen, List.map_append]
            exact own7
      · obtain rfl : k = n := by omega
        have ht : M.take k = M := by rw [HN.out, List.take_length]
        simp only [ht] at hown ⊢
        clear ht
        have HZ := aside_of (And.intro hown b3)
        clear hown b3
        go_wp2
        go_meet
        exact ⟨a5, c5, rfl, HZ.out.2, HZ.out.1⟩
  case rest =>
    obtain ⟨a5, c5, rfl, b3, HO⟩ := hcut
    have T3 := T1.below b3
    have q0 := T3.box.q0
    have q1 := T3.box.q1
    have q2 := T3.box.q2
    have q3 := T3.box.q3
    have f0 := T3.box.fz 0
    have f1 := T3.box.fz 1
    have f2 := T3.box.fz 2
    have f3 := T3.box.fz 3
    have r0 := T3.res.q0
    have r1 := T3.res.q1
    have r2 := T3.res.q2
    have r3 := T3.res.q3
    have g0 := T3.res.fz 0
    have g1 := T3.res.fz 1
    have g2 := T3.res.fz 2
    have g3 := T3.res.fz 3
    have T4 := aside_of (T3.put2 (.slice a5 (List.length (M.filter fun x => x != id)) c5))
    have HX := aside_of HT.out.2
    clear T1 T3 HT b3
    go_wp2
    obtain ⟨F3, F2, F1⟩ := T4.out.out
    unfold outB at F3 F2 F1
    have y0 := F3.q0
    have y1 := F3.q1
    have y2 := F3.q2
    have y3 := F3.q3
    refine bodyPost_ret (v := rbV lk aL nL cL a5 (M.filter fun x => x != id).length c5 aT nT cT) (by simp [results, Tryz.results24, go_sem, y0, y1, y2, y3]) rfl ⟨a5, c5, rfl, ?_, F2⟩
    refine World.ownsRow.mono (own_same HO.out fun g hg => ?_) (show w.heap.size ≤ w1.heap.size by rw [HX.out]; omega)
    rw [F1 g (by have := HX.out; omega)]
    exact Below.heap_setCell _ _ _ _ (by have := HX.out; show g ≠ w.heap.size; omega)

end Go.Proofs.YtbdnlaepeladbaaGreatDoor
