/- What End, Mark, Leaks, Since, Timers and New hand back. Conditions: how the book lies in memory. -/
import Derived.Test.YtbdnlaepeladbaaGreatDoorBkA
namespace Go.Proofs.YtbdnlaepeladbaaGreatDoor
open Go.ChangeShapes Go.WideShapes Go.ChangeAt Go.RowKit Go.Eng

variable {w w' : World} {b ml mm wl mt : Nat} {B : BK} {tm : List (Int × Int)}

set_option maxRecDepth 1000000 in
theorem end_calls (h : BkAt w b ml mm wl mt B) (id t : Int) :
    Calls Tryz.prog 11 #[.pointer (some ⟨b, 0, none⟩), .int .u64 id, .int .i64 t] w fun e w' => e = .returned (.int .i64 (B.end_ id t).2) ∧ BkAt w' b ml mm wl mt (B.end_ id t).1 ∧ Upto (fun k => k = ml ∨ k = mt) w w' := by
  have hh := held_calls h id t
  have H0 := aside_of h
  by_cases hx : B.holds id t
  · have hE : B.end_ id t = ({ B with ls := adel id B.ls, tm := adel id B.tm }, 0) := by unfold BK.end_; rw [if_pos hx]
    rw [if_pos hx] at hh
    have HE := aside_of hE
    clear hE hx h
    go_enter Tryz.func11, Tryz.ntmps11
    go_upto_region 3 with (go_at_call 69; with_reducible refine hh.mono ?_; clear hh; rintro e w1 ⟨he, b1⟩; subst he)
    have h1 := H0.out.below b1
    have q1 := h1.q1
    obtain ⟨ms, ck, hmu, he, hs⟩ := run_delete_st (P := Tryz.prog) (s := 22) (ty := 0) Tryz.underlying130 Tryz.underlying22 h1.ls id
    have h2 := h1.putL he hs (h1.kl.del id)
    have u2 : Upto (fun k => k = ml ∨ k = mt) w { w1 with heap := w1.heap.setIfInBounds ml (.map ms.toArray ck) } := Upto.put (S := fun k => k = ml ∨ k = mt) (.of_below b1) (.inl rfl) _
    generalize ({ w1 with heap := w1.heap.setIfInBounds ml (.map ms.toArray ck) } : World) = w2 at hmu h2 u2
    have q3 := h2.q3
    have hdis := disarm_calls h2.wh id
    have HD := aside_of hdis
    have H2 := aside_of (And.intro h2 u2)
    clear he hs h1 h2 u2 hdis b1
    go_wp2_with (go_at_call 70; with_reducible refine HD.out.mono ?_; rintro e w5 ⟨he, hW, u5⟩; subst he)
    go_ret
    rw [HE.out]
    exact ⟨rfl, H2.out.1.setW hW u5, H2.out.2.trans (u5.mono fun k hk => .inr hk)⟩
  · have hE : B.end_ id t = (B, 5) := by unfold BK.end_; rw [if_neg hx]
    rw [if_neg hx] at hh
    have HE := aside_of hE
    clear hE hx h
    go_enter Tryz.func11, Tryz.ntmps11
    go_wp2_with (go_at_call 69; with_reducible refine hh.mono ?_; clear hh; rintro e w1 ⟨he, b1⟩; subst he)
    go_ret
    rw [HE.out]
    exact ⟨rfl, H0.out.below b1, .of_below b1⟩

set_option maxRecDepth 1000000 in
theorem mark_calls (h : BkAt w b ml mm wl mt B) (id t : Int) :
    Calls Tryz.prog 12 #[.pointer (some ⟨b, 0, none⟩), .int .u64 id, .int .i64 t] w fun e w' => e = .returned (.int .i64 (B.mark id t).2) ∧ BkAt w' b ml mm wl mt (B.mark id t).1 ∧ Upto (fun k => k = mm) w w' := by
  have hh := held_calls h id t
  have H0 := aside_of h
  by_cases hx : B.holds id t
  · have hE : B.mark id t = ({ B with ms := aput id true B.ms }, 0) := by unfold BK.mark; rw [if_pos hx]
    rw [if_pos hx] at hh
    have HE := aside_of hE
    clear hE hx h
    go_enter Tryz.func12, Tryz.ntmps12
    go_upto_region 3 with (go_at_call 69; with_reducible refine hh.mono ?_; clear hh; rintro e w1 ⟨he, b1⟩; subst he)
    have h1 := H0.out.below b1
    have q2 := h1.q2
    obtain ⟨ms, ck, hmu, he, hs⟩ := run_mapUpdate_st (P := Tryz.prog) Tryz.underlying131 Tryz.underlying22 h1.ms id true
    have h2 := h1.putM he hs (h1.km.put id true)
    have u2 : Upto (fun k => k = mm) w { w1 with heap := w1.heap.setIfInBounds mm (.map ms.toArray ck) } := Upto.put (S := fun k => k = mm) (.of_below b1) rfl _
    simp only [bV] at hmu
    generalize ({ w1 with heap := w1.heap.setIfInBounds mm (.map ms.toArray ck) } : World) = w2 at hmu h2 u2
    have H2 := aside_of (And.intro h2 u2)
    clear he hs h1 h2 u2 b1
    go_wp2
    go_ret
    rw [HE.out]
    exact ⟨rfl, H2.out.1, H2.out.2⟩
  · have hE : B.mark id t = (B, 5) := by unfold BK.mark; rw [if_neg hx]
    rw [if_neg hx] at hh
    have HE := aside_of hE
    clear hE hx h
    go_enter Tryz.func12, Tryz.ntmps12
    go_wp2_with (go_at_call 69; with_reducible refine hh.mono ?_; clear hh; rintro e w1 ⟨he, b1⟩; subst he)
    go_ret
    rw [HE.out]
    exact ⟨rfl, H0.out.below b1, .of_below b1⟩

end Go.Proofs.YtbdnlaepeladbaaGreatDoor

namespace Go.Proofs.YtbdnlaepeladbaaGreatDoor
open Go.ChangeShapes Go.WideShapes Go.ChangeAt Go.RowKit Go.Eng

variable {w w' : World} {b ml mm wl mt : Nat} {B : BK} {tm : List (Int × Int)}

/-- A slice of ids. -/
structure IdsAt (w : World) (a : Option Addr) (D : List Int) : Prop where
  cell : ∀ k id, D[k]? = some id → ∃ j o, a = some ⟨j, o, none⟩ ∧ w.cell? ⟨j, o + k, none⟩ = some (.int .u64 id)

theorem Upto.cell {S : Nat → Prop} (h : Upto S w w') {j o : Nat} {v : Value} (hc : w.cell? ⟨j, o, none⟩ = some v) (hS : ∀ k, S k → ∃ es ck, w.heap[k]? = some (.map es ck)) : w'.cell? ⟨j, o, none⟩ = some v := by
  have hj : j < w.heap.size := by
    rcases Nat.lt_or_ge j w.heap.size with h | h
    · exact h
    · simp [World.cell?, Array.getElem?_eq_none h] at hc
  have : ¬ S j := by
    intro hs
    obtain ⟨es, ck, he⟩ := hS j hs
    simp [World.cell?, he] at hc
  simp only [World.cell?] at hc ⊢
  rw [h.block j hj this]
  exact hc

theorem MapSt.obj {β : Type} {V : β → Value} {k : IntKind} {es : List (Int × β)} {m : Nat} (h : MapSt k V w m es) : ∃ es ck, w.heap[m]? = some (.map es ck) := by
  obtain ⟨ms, c, h1, _⟩ := h
  exact ⟨_, _, h1⟩

theorem IdsAt.upto {S : Nat → Prop} {a : Option Addr} {D : List Int} (h : IdsAt w a D) (hu : Upto S w w') (hS : ∀ k, S k → ∃ es ck, w.heap[k]? = some (.map es ck)) : IdsAt w' a D :=
  ⟨fun k id hk => by
    obtain ⟨j, o, e, hc⟩ := h.cell k id hk
    exact ⟨j, o, e, hu.cell hc hS⟩⟩

theorem BkAt.objs (h : BkAt w b ml mm wl mt B) : ∀ k, k = ml ∨ k = mt → ∃ es ck, w.heap[k]? = some (.map es ck) := by
  rintro k (e | e)
  · rw [e]; exact MapSt.obj h.ls
  · rw [e]; exact MapSt.obj h.wh.tt

theorem look_le0 (h : BkAt w b ml mm wl mt B) (id : Int) : (Instr.lookup 130 (.map (some ml)) (.int .u64 id) false).run Tryz.prog w = .ok (leV ((aget id B.ls).getD ⟨0, 0, false⟩)) w := by
  have := run_lookup_ents (P := Tryz.prog) Tryz.underlying130 Tryz.underlying22 Tryz.zeroValue137 h.ls.is id false
  rw [this]
  cases aget id B.ls with
  | none => rfl
  | some x => rfl

theorem le_cells (w : World) (x0 x1 : Int) (x2 : Bool) : (w.alloc (.cells #[.int .i64 x0, .int .u64 x1, .bool x2] 137)).drew.cell? ⟨w.heap.size, 0, none⟩ = some (.int .i64 x0) ∧ (w.alloc (.cells #[.int .i64 x0, .int .u64 x1, .bool x2] 137)).drew.cell? ⟨w.heap.size, 1, none⟩ = some (.int .u64 x1) ∧ (w.alloc (.cells #[.int .i64 x0, .int .u64 x1, .bool x2] 137)).drew.cell? ⟨w.heap.size, 2, none⟩ = some (.bool x2) := by
  refine ⟨?_, ?_, ?_⟩
  all_goals
    show World.cell? (w.alloc _) _ = _
    simp only [World.cell?, World.alloc]
    rw [Array.getElem?_push_size]
    rfl

theorem flagAll_take {D : List Int} {k : Nat} {id : Int} (h : D[k]? = some id) (ls : List (Int × Le)) : flagAll (D.take (k + 1)) ls = aput id { (aget id (flagAll (D.take k) ls)).getD ⟨0, 0, false⟩ with fl := true } (flagAll (D.take k) ls) := by
  unfold flagAll
  rw [List.take_add_one, h, List.foldl_append]
  rfl

set_option maxHeartbeats 1000000 in
set_option maxRecDepth 1000000 in
theorem leaks_calls (h : BkAt w b ml mm wl mt B) {now : Int}
    (hdue : Calls Tryz.prog 71 #[.pointer (some ⟨wl, 0, none⟩), .int .u64 now] w fun e w' => ∃ a cap D, e = .returned (.slice a (List.length D) cap) ∧ IsDue B.tm now D ∧ List.length D ≤ 1024 ∧ IdsAt w' a D ∧ WhAt w' wl mt (delAll D B.tm) ∧ Upto (fun k => k = mt) w w') :
    Calls Tryz.prog 13 #[.pointer (some ⟨b, 0, none⟩), .int .u64 now] w fun e w' => ∃ a cap D, e = .returned (.slice a (List.length D) cap) ∧ IsDue B.tm now D ∧ List.length D ≤ 1024 ∧ IdsAt w' a D ∧ BkAt w' b ml mm wl mt (B.leaks D) ∧ Upto (fun k => k = ml ∨ k = mt) w w' := by
  have H0 := aside_of h
  have q3 := h.q3
  clear h
  go_enter Tryz.func13, Tryz.ntmps13
  go_upto_region 4 with (go_at_call 71; with_reducible refine hdue.mono ?_; clear hdue; rintro e w1 ⟨a, cap, D, he, hD, hL, hI, hW, u1⟩; subst he)
  have h1 : BkAt w1 b ml mm wl mt { B with ls := flagAll (D.take 0) B.ls, tm := delAll D B.tm } := H0.out.setW hW u1
  have u1' : Upto (fun k => k = ml ∨ k = mt) w w1 := u1.mono fun k hk => .inr hk
  have HD := aside_of (And.intro hD hL)
  have HP : Aside (∀ {e : Ending} {v : World}, e = .returned (.slice a (List.length D) cap) → IdsAt v a D → BkAt v b ml mm wl mt (B.leaks D) → Upto (fun k => k = ml ∨ k = mt) w v → ∃ a cap D, e = .returned (.slice a (List.length D) cap) ∧ IsDue B.tm now D ∧ List.length D ≤ 1024 ∧ IdsAt v a D ∧ BkAt v b ml mm wl mt (B.leaks D) ∧ Upto (fun k => k = ml ∨ k = mt) w v) := aside_of fun he h2 h3 h4 => ⟨a, cap, D, he, HD.out.1, HD.out.2, h2, h3, h4⟩
  clear q3 u1 hW hD HD
  generalize hz : List.length D = n at HP hL
  have HN := aside_of hz
  clear hz
  go_wp2
  go_loopg [19] n (fun gh v19 wr => ∃ k : Nat, k ≤ n ∧ gh = n - k ∧ v19 = .int .i64 k ∧ BkAt wr b ml mm wl mt { B with ls := flagAll (D.take k) B.ls, tm := delAll D B.tm } ∧ IdsAt wr a D ∧ Upto (fun k => k = ml ∨ k = mt) w wr)
  case atStart => exact ⟨0, Nat.zero_le _, rfl, rfl, h1, hI, u1'⟩
  case round =>
    clear h1 hI u1'
    obtain ⟨k, hk, rfl, rfl, h2, hI, u2⟩ := hrel
    by_cases hkn : k < n
    · obtain ⟨id, hid⟩ : ∃ id, D[k]? = some id := ⟨_, List.getElem?_eq_getElem (by have := HN.out; omega)⟩
      obtain ⟨j, o, rfl, hc⟩ := hI.cell k id hid
      have q1 := h2.q1
      have q0 := look_le0 h2 id
      have hkn' : (k : Int) < (n : Int) := by omega
      have HA := aside_of (And.intro h2 (And.intro hI u2))
      have HT := aside_of (flagAll_take hid B.ls)
      generalize hx : (aget id (flagAll (D.take k) B.ls)).getD ⟨0, 0, false⟩ = x at q0 HT
      clear hx h2 hI u2
      obtain ⟨x0, x1, x2⟩ := x
      go_upto_region 9 with fail
      generalize hH : wr.heap.size = H
      obtain ⟨e0, e1, e2⟩ := le_cells wr x0 x1 true
      rw [hH] at e0 e1 e2
      have b3 : Below wr.heap.size wr (wr.alloc (.cells #[.int .i64 x0, .int .u64 x1, .bool true] 137)).drew := (below_alloc wr _).trans ((below_drew _).mono (by simp))
      generalize (wr.alloc (.cells #[.int .i64 x0, .int .u64 x1, .bool true] 137)) = w3 at e0 e1 e2 b3 ⊢
      have h3 := HA.out.1.below b3
      have u3 := HA.out.2.2.trans (Upto.of_below (S := fun k => k = ml ∨ k = mt) b3)
      have I3 := HA.out.2.1.upto (Upto.of_below (S := fun k => k = ml ∨ k = mt) b3) HA.out.1.objs
      have hq1 := h3.q1
      obtain ⟨ms, ck, hmu, he, hs⟩ := run_mapUpdate_st (P := Tryz.prog) Tryz.underlying130 Tryz.underlying22 h3.ls id ⟨x0, x1, true⟩
      have h4 := h3.putL he hs (h3.kl.put id ⟨x0, x1, true⟩)
      have v4 : Upto (fun k => k = ml ∨ k = mt) w3.drew { w3.drew with heap := w3.drew.heap.setIfInBounds ml (.map ms.toArray ck) } := Upto.put (S := fun k => k = ml ∨ k = mt) (.refl _) (.inl rfl) _
      have I4 := I3.upto v4 h3.objs
      have u4 := u3.trans v4
      simp only at h4
      have HT' := HT.out
      simp only at HT'
      rw [← HT'] at h4
      simp only [leV] at hmu
      generalize ({ w3.drew with heap := w3.drew.heap.setIfInBounds ml (.map ms.toArray ck) } : World) = w4 at hmu h4 I4 u4
      have HR := aside_of (And.intro h4 (And.intro I4 u4))
      clear he hs h3 h4 v4 I3 I4 u3 u4 b3 HT' q0 q1
      refine wp_region_still_tail 6 (by kernel_rfl) (by kernel_rfl) ?_
      simp only [List.take_succ_cons, List.take_zero, List.drop_succ_cons, List.drop_zero]
      repeat still_step
      refine wpStill_nil ?_
      change wpList _ _ _ _ _ w3.drew
      go_wp2
      go_roundg (n - (k + 1))
      case measure => omega
      case rel => exact ⟨k + 1, by omega, rfl, by go_num, HR.out.1, HR.out.2.1, HR.out.2.2⟩
    · obtain rfl : k = n := by omega
      have ht : D.take k = D := by rw [← HN.out, List.take_length]
      rw [ht] at h2
      have HZ := aside_of (And.intro h2 (And.intro hI u2))
      clear h2 hI u2 ht
      go_wp2
      go_ret
      exact HP.out rfl HZ.out.2.1 HZ.out.1 HZ.out.2.2

end Go.Proofs.YtbdnlaepeladbaaGreatDoor

namespace Go.Proofs.YtbdnlaepeladbaaGreatDoor
open Go.ChangeShapes Go.WideShapes Go.ChangeAt Go.RowKit Go.Eng

variable {w w' : World} {b ml mm wl mt : Nat} {B : BK} {tm : List (Int × Int)}

theorem due_of {L : List Int} {now : Int} {k : Nat} (hn : L.Nodup) (hmem : ∀ id, id ∈ L ↔ (aget id tm).isSome) (hp0 : L.Pairwise (KeyLe tm))
    (hle : ∀ id ∈ L.take k, (aget id tm).getD 0 ≤ now) (hgt : ∀ id, L[k]? = some id → now < (aget id tm).getD 0) : IsDue tm now (L.take k) := by
  have hp : L.Pairwise (fun i j => (aget i tm).getD 0 ≤ (aget j tm).getD 0) := hp0.imp fun h => h.le
  refine ⟨hn.sublist (List.take_sublist ..), fun id => ⟨fun h => ?_, ?_⟩, hp0.sublist (List.take_sublist ..)⟩
  · have h1 := hle id h
    have h2 := (hmem id).1 (List.mem_of_mem_take h)
    cases e : aget id tm with
    | none => rw [e] at h2; cases h2
    | some a => rw [e] at h1; exact ⟨a, rfl, h1⟩
  · rintro ⟨a, e, ha⟩
    have hL : id ∈ L := (hmem id).2 (by rw [e]; rfl)
    obtain ⟨j, hj, he⟩ := List.mem_iff_getElem.1 hL
    by_cases hjk : j < k
    · rw [List.mem_iff_getElem?]
      exact ⟨j, by rw [List.getElem?_take, if_pos hjk, List.getElem?_eq_getElem hj, he]⟩
    · exfalso
      have hk : k < L.length := by omega
      have h1 := hgt L[k] (List.getElem?_eq_getElem hk)
      by_cases hkj : k = j
      · subst hkj
        rw [he, e] at h1
        simp at h1; omega
      · have h2 := List.pairwise_iff_getElem.1 hp k j hk hj (by omega)
        rw [he, e] at h2
        simp at h2; omega

theorem IdsAt.of_own {base n cap : Nat} {e : TypeId} {a : Option Addr} {D : List Int} (h : w.ownsRow base e 1 (.slice a n cap) n (D.map (Value.int .u64))) : IdsAt w a D :=
  ⟨fun k id hk => by
    rcases h.2 with ⟨h1, h0⟩ | ⟨g, c2, cur, h1, _⟩
    · have := h.1
      rw [h0] at this
      have h2 : D = [] := by simpa using this
      rw [h2] at hk; simp at hk
    · simp only [Value.slice.injEq] at h1
      obtain ⟨rfl, _, rfl⟩ := h1
      refine ⟨g, 0, rfl, ?_⟩
      have := World.ownsRow.cells h (g := g) rfl k (.int .u64 id) (by rw [List.getElem?_map, hk]; rfl)
      have e : ((⟨g, 0, none⟩ : Addr).add k) = ⟨g, 0 + k, none⟩ := by simp [Addr.add]; omega
      rw [e] at this
      exact this⟩

theorem own_putMap {base size n m : Nat} {e : TypeId} {v : Value} {xs : List Value} (h : w.ownsRow base e size v n xs) (hm : ∃ es ck, w.heap[m]? = some (.map es ck)) (o : Obj) : ({ w with heap := w.heap.setIfInBounds m o } : World).ownsRow base e size v n xs := by
  refine ⟨h.1, ?_⟩
  rcases h.2 with h1 | ⟨g, cap, cur, h1, h2, h3, h4⟩
  · exact .inl h1
  · refine .inr ⟨g, cap, cur, h1, h2, ?_, h4⟩
    have hne : m ≠ g := by
      rintro rfl
      obtain ⟨es, ck, he⟩ := hm
      rw [he] at h3; cases h3
    show (w.heap.setIfInBounds m o)[g]? = _
    rw [Array.getElem?_setIfInBounds, if_neg hne]
    exact h3

theorem infoW : (Tryz.prog.info? 22).map (fun i => (i.zero, i.size, i.bytes)) = some (some (.int .u64 0), 1, 8) := by kernel_rfl

theorem info_partsU {P : Program} {t : TypeId} {z : Value} {s b : Nat} (h : (P.info? t).map (fun i => (i.zero, i.size, i.bytes)) = some (some z, s, b)) : ∃ i, P.info? t = some i ∧ i.zero = some z ∧ i.size = s ∧ i.bytes = b := by
  cases e : P.info? t with
  | none => rw [e] at h; cases h
  | some i =>
    rw [e] at h
    simp only [Option.map_some, Option.some.injEq, Prod.mk.injEq] at h
    exact ⟨i, rfl, h.1, h.2.1, h.2.2⟩

theorem own_shapeU {base size n : Nat} {e : TypeId} {v : Value} {xs : List Value} (h : w.ownsRow base e size v n xs) : ∃ a c, v = .slice a n c := by
  rcases h.2 with ⟨rfl, h0⟩ | ⟨g, cap, cur, rfl, _⟩
  · exact ⟨none, 0, by rw [h0]⟩
  · exact ⟨some ⟨g, 0, none⟩, cap, rfl⟩

theorem own_oneU (x : Value) (e : TypeId) : ∀ (j : Nat) (u : Value), [x][j]? = some u → (w.alloc (.cells #[x] e)).cell? ((⟨w.heap.size, 0, none⟩ : Addr).add j) = some u := by
  intro j u hj
  match j with
  | 0 => simp at hj; subst hj; simp [Addr.add]
  | j + 1 => simp at hj

theorem grown_ownU {base n size : Nat} {e : TypeId} {v : Value} {xs : List Value} (hb : base ≤ w.heap.size) (h : w.ownsRow base e size v n xs) (hg : w.grownBy w' v.ownBlock) : Below base w w' :=
  (Below.refl base w).grown hg hb fun k hk => (World.ownsRow.lt h k hk).1

theorem look_tm0 (h : WhAt w wl mt tm) (id : Int) : (Instr.lookup 233 (.map (some mt)) (.int .u64 id) false).run Tryz.prog w = .ok (.int .u64 ((aget id tm).getD 0)) w := by
  have := run_lookup_ents (P := Tryz.prog) Tryz.underlying233 Tryz.underlying22 Tryz.zeroValue22 h.tt.is id false
  rw [this]
  cases aget id tm with
  | none => rfl
  | some x => rfl

theorem delAll_take {D : List Int} {k : Nat} {id : Int} (h : D[k]? = some id) (tm : List (Int × Int)) : delAll (D.take (k + 1)) tm = adel id (delAll (D.take k) tm) := by
  unfold delAll
  rw [List.take_add_one, h, List.foldl_append]
  rfl

theorem not_take {L : List Int} {k : Nat} {id : Int} (hn : L.Nodup) (h : L[k]? = some id) : id ∉ L.take k := by
  intro hm
  obtain ⟨j, hj⟩ := List.mem_iff_getElem?.1 hm
  rw [List.getElem?_take] at hj
  split at hj
  · rename_i hjk
    obtain ⟨hk, hk2⟩ := List.getElem?_eq_some_iff.1 h
    obtain ⟨hj1, hj2⟩ := List.getElem?_eq_some_iff.1 hj
    exact List.pairwise_iff_getElem.1 hn j k hj1 hk hjk (hj2.trans hk2.symm)
  · cases hj

/-- What keys tells. -/
structure IsKeys (tm : List (Int × Int)) (L : List Int) : Prop where
  nodup : L.Nodup
  mem : ∀ id, id ∈ L ↔ (aget id tm).isSome
  sorted : L.Pairwise (KeyLe tm)
  len : L.length ≤ 1024

theorem Upto.belowB {S : Nat → Prop} {a b c : World} {B : Nat} (h : Upto S a b) (k : Below B b c) (hB : a.heap.size ≤ B) : Upto S a c :=
  ⟨k.os.trans h.os, k.tape.trans h.tape, k.output.trans h.output, Nat.le_trans h.size k.size, fun j hj hs => (k.block j (by omega)).trans (h.block j hj hs)⟩

theorem WhAt.belowB {B : Nat} (h : WhAt w wl mt tm) (hb : Below B w w') (h1 : wl < B) (h2 : mt < B) : WhAt w' wl mt tm := ⟨(hb.block wl h1).trans h.row, h.tt.below hb h2, h.kt⟩

set_option maxHeartbeats 1000000 in
set_option maxRecDepth 1000000 in
theorem due_calls (h : WhAt w wl mt tm) {now : Int}
    (hkeys : Calls Tryz.prog 160 #[.pointer (some ⟨wl, 0, none⟩)] w fun e w' => ∃ a cap L, e = .returned (.slice a (List.length L) cap) ∧ IsKeys tm L ∧ IdsAt w' a L ∧ Below w.heap.size w w') :
    Calls Tryz.prog 71 #[.pointer (some ⟨wl, 0, none⟩), .int .u64 now] w fun e w' => ∃ a cap D, e = .returned (.slice a (List.length D) cap) ∧ IsDue tm now D ∧ List.length D ≤ 1024 ∧ IdsAt w' a D ∧ WhAt w' wl mt (delAll D tm) ∧ Upto (fun k => k = mt) w w' := by
  obtain ⟨i0, hi, hz0, hz1, hz2⟩ := info_partsU infoW
  have H0 := aside_of h
  clear h
  go_enter Tryz.func71, Tryz.ntmps71
  go_wp2_with (go_at_call 160; with_reducible refine hkeys.mono ?_; clear hkeys; rintro e w1 ⟨a, cap, L, he, hK, hI, b1⟩; subst he)
  have hL := hK.len
  have HK := aside_of hK
  have h1 : WhAt w1 wl mt (delAll (L.take 0) tm) := H0.out.below b1
  have HU := aside_of (Upto.of_below (S := fun k => k = mt) b1)
  clear hK
  generalize hz : List.length L = n at hL
  have HN := aside_of hz
  obtain ⟨B1, hB1⟩ : ∃ B1, B1 = w1.heap.size := ⟨_, rfl⟩
  have HB := aside_of hB1
  have H1 := aside_of (And.intro (H0.out.below b1) hI)
  have o1 : w1.ownsRow B1 22 1 (.slice none 0 0) 0 (((L.take 0)).map (Value.int .u64)) := World.ownsRow_nil w1 _ 22 1
  clear hz hB1 b1
  go_loopg [5, 11] n (fun gh v5 v11 wr => ∃ k : Nat, k ≤ n ∧ gh = n - k ∧ v11 = .int .i64 k ∧ WhAt wr wl mt (delAll (L.take k) tm) ∧ IdsAt wr a L ∧ Upto (fun k => k = mt) w1 wr ∧ wr.ownsRow B1 22 1 v5 k ((L.take k).map (Value.int .u64)) ∧ Aside (∀ id ∈ L.take k, (aget id tm).getD 0 ≤ now))
  case atStart => exact ⟨0, Nat.zero_le _, rfl, rfl, h1, hI, Upto.refl _, o1, aside_of (by simp)⟩
  case round =>
    clear h1 hI o1
    obtain ⟨k, hk, rfl, rfl, h2, hI, u2, hown, HLE⟩ := hrel
    obtain ⟨a5, c5, rfl⟩ := own_shapeU hown
    by_cases hkn : k < n
    · obtain ⟨id, hid⟩ : ∃ id, L[k]? = some id := ⟨_, List.getElem?_eq_getElem (by have := HN.out; omega)⟩
      obtain ⟨j, o, rfl, hc⟩ := hI.cell k id hid
      have q0 := h2.q0
      have hl := look_tm0 h2 id
      rw [(delAll_get _ H0.out.kt).2, if_neg (not_take HK.out.nodup hid)] at hl
      have hkn' : (k : Int) < (n : Int) := by omega
      have HA := aside_of (And.intro h2 (And.intro hI (And.intro u2 hown)))
      have HT := aside_of (delAll_take hid tm)
      have HI := aside_of hid
      clear h2 hI u2 hown
      generalize hx : (aget id tm).getD 0 = x at hl
      have HX := aside_of hx
      clear hx hid
      by_cases hnow : now < x
      · go_wp2
        go_ret
        have hlen : (L.take k).length = k := by rw [List.length_take, HN.out]; omega
        refine ⟨a5, c5, L.take k, by rw [hlen]; rfl, ?_, by rw [hlen]; omega, .of_own HA.out.2.2.2, HA.out.1, HU.out.trans HA.out.2.2.1⟩
        exact due_of HK.out.nodup HK.out.mem HK.out.sorted HLE.out (fun id2 hid2 => by
          have := HI.out.symm.trans hid2
          obtain rfl := Option.some.inj this
          rw [HX.out]; exact hnow)
      · have hsz : B1 ≤ wr.heap.size := HB.out ▸ HA.out.2.2.1.size
        have HO : Aside (wr.ownsRow B1 22 1 (.slice a5 k c5) k ((L.take k).map (Value.int .u64))) := HA.out.2.2.2
        go_upto_region 7 with (at_builtin; refine wpList_append_own _ rfl (.tmp 23) (.tmp 25) 33 rfl B1 22 i0 (.int .u64 0) 1 8 Tryz.underlying33 hi hz0 hz1 hz2 rfl (by decide) (.slice a5 k c5) k ((L.take k).map (Value.int .u64)) rfl (World.ownsRow.alloc HO.out _) ⟨wr.heap.size, 0, none⟩ 1 1 [.int .u64 id] rfl rfl (own_oneU _ _) (by simp [Value.oneCell']) (by unfold maxLen; omega) (by omega) (by simp; omega) ?_; intro v7 w7 own7 gr7 _; have b7 : Below B1 wr w7 := ((Below.refl B1 wr).alloc hsz _).trans (grown_ownU (by simp; omega) (World.ownsRow.alloc HO.out _) gr7); obtain ⟨a7, c7, rfl⟩ := own_shapeU own7)
        have wB : wl < B1 := by rw [HB.out]; exact H1.out.1.lt
        have mB : mt < B1 := by rw [HB.out]; exact H1.out.1.tt.lt
        have h7 := HA.out.1.belowB b7 wB mB
        have u7 := HA.out.2.2.1.belowB b7 (Nat.le_of_eq HB.out.symm)
        have q7 := h7.q0
        obtain ⟨ms, ck, hmu, he, hs⟩ := run_delete_st (P := Tryz.prog) (s := 22) (ty := 0) Tryz.underlying233 Tryz.underlying22 h7.tt id
        have h8 := h7.put he hs (h7.kt.del id)
        have u8 := Upto.put (S := fun k => k = mt) u7 rfl (.map ms.toArray ck)
        have o8 := own_putMap own7 (MapSt.obj h7.tt) (.map ms.toArray ck)
        have I8 := H1.out.2.upto u8 (by rintro k rfl; exact MapSt.obj H1.out.1.tt)
        rw [← HT.out] at h8
        generalize ({ w7 with heap := w7.heap.setIfInBounds mt (.map ms.toArray ck) } : World) = w8 at hmu h8 u8 o8 I8
        have hle8 : ∀ id ∈ L.take (k + 1), (aget id tm).getD 0 ≤ now := by
          intro id2 hid2
          rw [List.take_add_one, HI.out] at hid2
          rcases List.mem_append.1 hid2 with h | h
          · exact HLE.out id2 h
          · have : id2 = id := by simpa using h
            rw [this, HX.out]; omega
        have hm8 : (L.take (k + 1)).map (Value.int .u64) = (L.take k).map (Value.int .u64) ++ [.int .u64 id] := by
          rw [List.take_add_one, HI.out, List.map_append]; rfl
        rw [← hm8] at o8
        have HR := aside_of (And.intro h8 (And.intro I8 (And.intro u8 (And.intro o8 hle8))))
        clear he hs h8 u8 o8 I8 hle8 hm8 h7 u7 own7 gr7 b7
        go_wp2
        go_roundg (n - (k + 1))
        case measure => omega
        case rel => exact ⟨k + 1, by omega, rfl, by go_num, HR.out.1, HR.out.2.1, HR.out.2.2.1, HR.out.2.2.2.1, aside_of HR.out.2.2.2.2⟩
    · obtain rfl : k = n := by omega
      have ht : L.take k = L := by rw [← HN.out, List.take_length]
      have HZ := aside_of (And.intro h2 (And.intro hI (And.intro u2 hown)))
      clear h2 hI u2 hown
      go_wp2
      go_ret
      refine ⟨a5, c5, L, by rw [HN.out]; rfl, ?_, by rw [HN.out]; exact hL, ?_, ?_, HU.out.trans HZ.out.2.2.1⟩
      · rw [← ht]
        exact due_of HK.out.nodup HK.out.mem HK.out.sorted HLE.out (fun id hid => by
          have : L[k]? = none := List.getElem?_eq_none (Nat.le_of_eq HN.out)
          rw [this] at hid; cases hid)
      · have := HZ.out.2.2.2
        rw [ht] at this
        exact .of_own this
      · have := HZ.out.1
        rw [ht] at this
        exact this

end Go.Proofs.YtbdnlaepeladbaaGreatDoor

namespace Go.Proofs.YtbdnlaepeladbaaGreatDoor
open Go.ChangeShapes Go.WideShapes Go.ChangeAt Go.RowKit Go.Eng

variable {w w' : World} {b ml mm wl mt : Nat} {B : BK} {tm : List (Int × Int)}

set_option maxRecDepth 100000 in
theorem since_calls (h : BkAt w b ml mm wl mt B) (id : Int) :
    Calls Tryz.prog 14 #[.pointer (some ⟨b, 0, none⟩), .int .u64 id] w fun e w' => e = .returned (.tuple #[.int .u64 ((aget id B.ls).getD ⟨0, 0, false⟩).since, .bool (aget id B.ls).isSome]) ∧ Below w.heap.size w w' := by
  have hg := get_calls h id
  generalize (aget id B.ls).getD ⟨0, 0, false⟩ = x at hg ⊢
  generalize (aget id B.ls).isSome = ok at hg ⊢
  obtain ⟨x0, x1, x2⟩ := x
  clear h
  go_enter Tryz.func14, Tryz.ntmps14
  go_wp2_with (go_at_call 68; with_reducible refine hg.mono ?_; clear hg; rintro e w1 ⟨he, b1⟩; subst he)
  refine bodyPost_ret (v := .tuple #[.int .u64 x1, .bool ok]) (by simp [results, Tryz.results14, go_sem]) rfl ⟨rfl, b1.alloc b1.size _⟩

set_option maxRecDepth 100000 in
theorem wlen_calls (h : WhAt w wl mt tm) :
    Calls Tryz.prog 77 #[.pointer (some ⟨wl, 0, none⟩)] w fun e w' => e = .returned (.int .i64 tm.length) ∧ w' = w := by
  have hl := len_tm h
  have q0 := h.q0
  generalize tm.length = z at hl ⊢
  clear h
  go_enter Tryz.func77, Tryz.ntmps77
  go_wp2
  go_ret
  exact ⟨rfl, rfl⟩

set_option maxRecDepth 100000 in
theorem timers_calls (h : BkAt w b ml mm wl mt B) :
    Calls Tryz.prog 18 #[.pointer (some ⟨b, 0, none⟩)] w fun e w' => e = .returned (.int .i64 B.tm.length) ∧ w' = w := by
  have hl := wlen_calls h.wh
  have q3 := h.q3
  generalize B.tm.length = z at hl ⊢
  clear h
  go_enter Tryz.func18, Tryz.ntmps18
  go_wp2_with (go_at_call 77; with_reducible refine hl.mono ?_; clear hl; rintro e w1 ⟨he, hw⟩; subst he; subst hw)
  go_ret
  exact ⟨rfl, rfl⟩

theorem heap_new (w : World) (o : Obj) : (w.alloc o).heap[w.heap.size]? = some o := by simp only [World.alloc]; exact Array.getElem?_push_size
theorem size_new (w : World) (o : Obj) : (w.alloc o).heap.size = w.heap.size + 1 := by simp
theorem _root_.Go.Eng.MapSt.made {β : Type} {V : β → Value} (k : IntKind) (w : World) : MapSt k V (w.alloc (.map #[] 0)) w.heap.size [] := ⟨[], 0, heap_new _ _, trivial, ⟨.nil, by simp⟩⟩
theorem _root_.Go.Eng.MapSt.grow {β : Type} {V : β → Value} {k : IntKind} {m : Nat} {es : List (Int × β)} (h : MapSt k V w m es) (o : Obj) : MapSt k V (w.alloc o) m es := h.below (below_alloc w o) h.lt

theorem bk_new (w : World) (leak : Int) : BkAt (((((w.alloc (.map #[] 0)).alloc (.map #[] 0)).alloc (.map #[] 0)).alloc (.cells #[.map (some (w.heap.size + 1 + 1))] 235)).alloc (.cells #[.int .u64 leak, .map (some w.heap.size), .map (some (w.heap.size + 1)), .pointer (some ⟨w.heap.size + 1 + 1 + 1, 0, none⟩)] 135)) (w.heap.size + 1 + 1 + 1 + 1) w.heap.size (w.heap.size + 1) (w.heap.size + 1 + 1 + 1) (w.heap.size + 1 + 1) ⟨leak, [], [], []⟩ := by
  obtain ⟨w1, e1⟩ : ∃ w1, w1 = w.alloc (.map #[] 0) := ⟨_, rfl⟩
  have a1 : MapSt .u64 leV w1 w.heap.size [] := by rw [e1]; exact .made _ _
  have s1 : w1.heap.size = w.heap.size + 1 := by rw [e1]; exact size_new _ _
  rw [← e1]
  obtain ⟨w2, e2⟩ : ∃ w2, w2 = w1.alloc (.map #[] 0) := ⟨_, rfl⟩
  have a2 : MapSt .u64 leV w2 w.heap.size [] := by rw [e2]; exact a1.grow _
  have b2 : MapSt .u64 bV w2 (w.heap.size + 1) [] := by rw [e2, ← s1]; exact .made _ _
  have s2 : w2.heap.size = w.heap.size + 1 + 1 := by rw [e2, size_new, s1]
  rw [← e2]
  obtain ⟨w3, e3⟩ : ∃ w3, w3 = w2.alloc (.map #[] 0) := ⟨_, rfl⟩
  have a3 : MapSt .u64 leV w3 w.heap.size [] := by rw [e3]; exact a2.grow _
  have b3 : MapSt .u64 bV w3 (w.heap.size + 1) [] := by rw [e3]; exact b2.grow _
  have c3 : MapSt .u64 uV w3 (w.heap.size + 1 + 1) [] := by rw [e3, ← s2]; exact .made _ _
  have s3 : w3.heap.size = w.heap.size + 1 + 1 + 1 := by rw [e3, size_new, s2]
  rw [← e3]
  have r4 := heap_new w3 (.cells #[.map (some (w.heap.size + 1 + 1))] 235)
  have s4 := size_new w3 (.cells #[.map (some (w.heap.size + 1 + 1))] 235)
  have a4 := a3.grow (.cells #[.map (some (w.heap.size + 1 + 1))] 235)
  have b4 := b3.grow (.cells #[.map (some (w.heap.size + 1 + 1))] 235)
  have c4 := c3.grow (.cells #[.map (some (w.heap.size + 1 + 1))] 235)
  rw [s3] at r4 s4
  have h4 : WhAt (w3.alloc (.cells #[.map (some (w.heap.size + 1 + 1))] 235)) (w.heap.size + 1 + 1 + 1) (w.heap.size + 1 + 1) [] := ⟨r4, c4, .nil⟩
  generalize w3.alloc (.cells #[.map (some (w.heap.size + 1 + 1))] 235) = w4 at a4 b4 h4 s4 ⊢
  have r5 := heap_new w4 (.cells #[.int .u64 leak, .map (some w.heap.size), .map (some (w.heap.size + 1)), .pointer (some ⟨w.heap.size + 1 + 1 + 1, 0, none⟩)] 135)
  rw [s4] at r5
  exact ⟨r5, a4.grow _, .nil, b4.grow _, .nil, h4.below (below_alloc w4 _), by omega, by omega, by omega⟩

set_option maxRecDepth 100000 in
theorem wnew_calls (w : World) :
    Calls Tryz.prog 67 #[] w fun e w' => e = .returned (.pointer (some ⟨w.heap.size + 1, 0, none⟩)) ∧ w' = (w.alloc (.map #[] 0)).alloc (.cells #[.map (some w.heap.size)] 235) := by
  have hmm := @run_makeMap Tryz.prog
  go_enter Tryz.func67, Tryz.ntmps67
  go_wp2
  go_ret
  exact ⟨by simp, rfl⟩

set_option maxRecDepth 100000 in
theorem new_calls (w : World) (leak : Int) :
    Calls Tryz.prog 9 #[.int .u64 leak] w fun e w' => ∃ b ml mm wl mt, e = .returned (.pointer (some ⟨b, 0, none⟩)) ∧ BkAt w' b ml mm wl mt ⟨leak, [], [], []⟩ ∧ (w.heap.size ≤ ml ∧ w.heap.size ≤ mm ∧ w.heap.size ≤ mt) ∧ Below w.heap.size w w' := by
  have hw := wnew_calls ((w.alloc (.map #[] 0)).alloc (.map #[] 0))
  have hmm := @run_makeMap Tryz.prog
  go_enter Tryz.func9, Tryz.ntmps9
  go_wp2_with (go_at_call 67; with_reducible refine hw.mono ?_; clear hw; rintro e w1 ⟨he, hw⟩; subst he; subst hw)
  go_ret
  exact ⟨_, _, _, _, _, rfl, bk_new w leak, ⟨by omega, by omega, by omega⟩, by
    have e := fun (v : World) (o : Obj) (h : w.heap.size ≤ v.heap.size) (k : Below w.heap.size w v) => k.alloc h o
    exact e _ _ (by simp; omega) (e _ _ (by simp; omega) (e _ _ (by simp; omega) (e _ _ (by simp) (e _ _ (Nat.le_refl _) (Below.refl _ _)))))⟩

end Go.Proofs.YtbdnlaepeladbaaGreatDoor

namespace Go.Proofs.YtbdnlaepeladbaaGreatDoor
open Go.ChangeShapes Go.WideShapes Go.ChangeAt Go.RowKit Go.Eng

variable {w w' : World} {b ml mm wl mt : Nat} {B : BK} {tm : List (Int × Int)}

set_option maxRecDepth 100000 in
theorem held1_calls {c : Nat} {t : Int} (hc : w.cell? ⟨c, 0, none⟩ = some (.int .i64 t)) (x : Le) :
    Calls Tryz.prog 75 #[leV x, .pointer (some ⟨c, 0, none⟩)] w fun e w' => e = .returned (.bool (x.thread == t)) ∧ Below w.heap.size w w' := by
  obtain ⟨x0, x1, x2⟩ := x
  have hc1 : (w.alloc (.cells #[.int .i64 x0, .int .u64 x1, .bool x2] 137)).cell? ⟨c, 0, none⟩ = some (.int .i64 t) := by
    have := (below_alloc w (.cells #[.int .i64 x0, .int .u64 x1, .bool x2] 137)).block c (World.block_lt_of_cell? _ _ hc)
    simp only [World.cell?] at hc ⊢
    rw [this]; exact hc
  go_enter Tryz.func75, Tryz.ntmps75
  go_wp2
  go_ret
  exact ⟨rfl, below_alloc w _⟩

set_option maxRecDepth 100000 in
theorem flagged1_calls (x : Le) :
    Calls Tryz.prog 78 #[leV x] w fun e w' => e = .returned (.bool x.fl) ∧ Below w.heap.size w w' := by
  obtain ⟨x0, x1, x2⟩ := x
  go_enter Tryz.func78, Tryz.ntmps78
  go_wp2
  go_ret
  exact ⟨rfl, below_alloc w _⟩

set_option maxRecDepth 100000 in
theorem len1_calls (x : Le) :
    Calls Tryz.prog 76 #[leV x] w fun e w' => e = .returned (.bool true) ∧ Below w.heap.size w w' := by
  obtain ⟨x0, x1, x2⟩ := x
  go_enter Tryz.func76, Tryz.ntmps76
  go_wp2
  go_ret
  exact ⟨rfl, below_alloc w _⟩

def keysV (g c : Nat) : Value := .func (.func g) #[] #[.pointer (some ⟨c, 0, none⟩)]

set_option maxRecDepth 100000 in
theorem keysL_calls (m : Nat) :
    Calls Tryz.prog 162 #[.map (some m)] w fun e w' => ∃ c, e = .returned (keysV 203 c) ∧ w'.cell? ⟨c, 0, none⟩ = some (.map (some m)) ∧ Below w.heap.size w w' := by
  go_enter Tryz.func162, Tryz.ntmps162
  go_wp2
  go_ret
  exact ⟨w.heap.size, rfl, by simp only [World.cell?]; rw [heap_new]; rfl, below_alloc w _⟩

set_option maxRecDepth 100000 in
theorem keysT_calls (m : Nat) :
    Calls Tryz.prog 197 #[.map (some m)] w fun e w' => ∃ c, e = .returned (keysV 228 c) ∧ w'.cell? ⟨c, 0, none⟩ = some (.map (some m)) ∧ Below w.heap.size w w' := by
  go_enter Tryz.func197, Tryz.ntmps197
  go_wp2
  go_ret
  exact ⟨w.heap.size, rfl, by simp only [World.cell?]; rw [heap_new]; rfl, below_alloc w _⟩

/-- All of X, rising. -/
structure Rising (R X : List Int) : Prop where
  perm : R.Perm X
  le : R.Pairwise (· ≤ ·)

/-- slices.Sorted(maps.Keys(m)) tells a map's keys. -/
def SortedLs : Prop := ∀ (w : World) (c m : Nat) (es : List (Int × Le)), w.cell? ⟨c, 0, none⟩ = some (.map (some m)) → MapSt .u64 leV w m es → Keys1 es → (∀ p ∈ es, (Lit.int .u64 p.1).wf = true) → es.length ≤ 1000 →
  Calls Tryz.prog 161 #[keysV 203 c] w fun e w' => ∃ a cap ss, e = .returned (.slice a (List.length ss) cap) ∧ Rising ss (es.map (·.1)) ∧ IdsAt w' a ss ∧ Below w.heap.size w w'

end Go.Proofs.YtbdnlaepeladbaaGreatDoor
