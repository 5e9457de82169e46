/- IDs and Count. Conditions: how the bag lies in memory. -/
import Derived.Test.YtbdnlaepeladbaaGreatDoorBgF
import Derived.Test.YtbdnlaepeladbaaGreatDoorMq
import Derived.Test.YtbdnlaepeladbaaGreatDoorNu
import Derived.Test.YtbdnlaepeladbaaGreatDoorShelfP
import Derived.Test.YtbdnlaepeladbaaGreatDoorMo
import Derived.Test.YtbdnlaepeladbaaGreatDoorSuB
set_option linter.unusedSimpArgs false
set_option linter.unusedVariables false
namespace Go.Proofs.YtbdnlaepeladbaaGreatDoor
open Go.ChangeShapes Go.WideShapes Go.ChangeAt Go.RowKit Go.Eng Go.Sort

/-! ### the keys, sorted -/

variable {w w' : World} {b : Nat} {ns : List Int} {B : List (List Int)} {D R : Nat → Prop}

theorem below_alloc (v : World) (o : Obj) : Below v.heap.size v (v.alloc o) := (Below.refl _ v).alloc (Nat.le_refl _) o
theorem heap_new (v : World) (o : Obj) : (v.alloc o).heap[v.heap.size]? = some o := (Go.MapKept.heap_alloc v o).1

def keysV (g c : Nat) : Value := .func (.func g) #[] #[.pointer (some ⟨c, 0, none⟩)]

set_option maxRecDepth 100000 in
theorem keysP_calls (m : Nat) :
    Calls Tryz.prog 176 #[.map (some m)] w fun e w' => ∃ c, e = .returned (keysV 211 c) ∧ w'.cell? ⟨c, 0, none⟩ = some (.map (some m)) ∧ Below w.heap.size w w' := by
  go_enter Tryz.func176, Tryz.ntmps176
  go_wp2
  go_ret
  exact ⟨w.heap.size, rfl, by simp only [World.cell?]; rw [heap_new]; rfl, below_alloc w _⟩

theorem appPl {c m : Nat} {es : List (Int × Pl)} (hc : w.cell? ⟨c, 0, none⟩ = some (.map (some m))) (hm : MapSt .u64 plV w m es) (hk : Keys1 es) (hw : ∀ p ∈ es, (Lit.int .u64 p.1).wf = true) (hl : es.length ≤ 1000) :
    Calls Tryz.prog 230 #[.slice none 0 0, keysV 211 c] w fun e w' => ∃ (v : Value) (ss : List Int), e = .returned v ∧ ss.Perm (es.map (·.1)) ∧ w'.ownsRow w.heap.size 22 1 v ss.length (ss.map (Value.int .u64)) ∧ Below w.heap.size w w' :=
  (appendSeq_map (P := Tryz.prog) (V := plV) (e := ⟨230, 211, .u64, 22⟩) ⟨rk211, ra, lk211, la, rfl, rfl, rfl⟩ hc hm hk hw hl).mono fun _ _ ⟨v, ss, h1, h2, h3, _, h5⟩ => ⟨v, ss, h1, h2, h3, h5⟩

theorem grown_ownU {base n size : Nat} {e : TypeId} {v : Value} {xs : List Value} (hb : base ≤ w.heap.size) (h : w.ownsRow base e size v n xs) (hg : w.grownBy w' v.ownBlock) : Below base w w' :=
  (Below.refl base w).grown hg hb fun k hk => (World.ownsRow.lt h k hk).1

theorem sortU_calls (blk off cap : Nat) (zs : List Int) (w : World) (hH : Holds (Value.int .u64) w blk off zs.toArray) (hblk : blk < w.heap.size) (hsz : zs.length < 4611686018427387904) :
    Calls Tryz.prog 202 #[.slice (some ⟨blk, off, none⟩) zs.length cap] w fun e w' =>
      e = .returned (.tuple #[]) ∧ ∃ n os, w' = grow (putRow (Value.int .u64) (Sort.ahead w n) blk off (zs.mergeSort fun x y => decide (x ≤ y)).toArray) os :=
  calls_of_every_depth fun D => SuU.AnyU.slices_Sort_int_in Tryz.sortUL D blk off cap zs w hH hblk hsz

/-- slices.Sort at words: an own row, sorted. -/
theorem sortOwn {base : Nat} {v : Value} {zs : List Int} (hown : w.ownsRow base 22 1 v zs.length (zs.map (Value.int .u64))) (hl : zs.length ≤ 1000) :
    Calls Tryz.prog 202 #[v] w fun e w' => e = .returned (.tuple #[]) ∧ ∃ ys : List Int, ys.Perm zs ∧ ys.Pairwise (· ≤ ·) ∧ w'.ownsRow base 22 1 v ys.length (ys.map (Value.int .u64)) ∧ Below base w w' := by
  rcases hown.2 with ⟨rfl, h0⟩ | ⟨g, cap, cur, rfl, hbase, hb, h1, h2, h3, h4⟩
  · obtain rfl : zs = [] := List.eq_nil_of_length_eq_zero h0
    refine (SuU.AnyG.slices_Sort_int_noneU Tryz.sortUL none 0 w).mono ?_
    rintro e w' ⟨rfl, rfl⟩
    exact ⟨rfl, [], .refl _, .nil, hown, Below.refl ..⟩
  · have hg : g < w.heap.size := (Array.getElem?_eq_some_iff.1 hb).1
    refine (sortU_calls g 0 cap zs w (holds_of_blockU hb (by simpa using h4)) hg (by omega)).mono ?_
    rintro e w' ⟨rfl, n, os, rfl⟩
    have hp := List.mergeSort_perm zs fun x y => decide (x ≤ y)
    refine ⟨rfl, _, hp, ?_, ?_, grown_ownU (by omega) hown (grownBy_sortedU _)⟩
    · exact (List.pairwise_mergeSort (fun a b c h1 h2 => by simp only [decide_eq_true_eq] at *; omega) (fun a b => by simp only [Bool.or_eq_true, decide_eq_true_eq]; omega) zs).imp (by simp)
    rw [hp.length_eq]
    exact ownsRow_sortedU hp.length_eq hbase hb h1 h2 h3

set_option maxRecDepth 100000 in
theorem collect_calls {c m : Nat} {es : List (Int × Pl)} (hc : w.cell? ⟨c, 0, none⟩ = some (.map (some m))) (hm : MapSt .u64 plV w m es) (hk : Keys1 es) (hwf : ∀ p ∈ es, (Lit.int .u64 p.1).wf = true) (hl : es.length ≤ 1000) :
    Calls Tryz.prog 201 #[keysV 211 c] w fun e w' => ∃ (v : Value) (ss : List Int), e = .returned v ∧ ss.Perm (es.map (·.1)) ∧ w'.ownsRow w.heap.size 22 1 v ss.length (ss.map (Value.int .u64)) ∧ Below w.heap.size w w' := by
  have ha := appPl hc hm hk hwf hl
  clear hc hm hk hwf hl
  unfold keysV at ha ⊢
  go_enter Tryz.func201, Tryz.ntmps201
  go_wp2_with (go_at_call 230; refine ha.mono ?_; clear ha; rintro e w1 ⟨v, ss, he, hp, ho, b1⟩; subst he)
  go_ret
  exact ⟨v, ss, rfl, hp, ho, b1⟩

set_option maxRecDepth 100000 in
theorem sorted_calls {c m : Nat} {es : List (Int × Pl)} (hc : w.cell? ⟨c, 0, none⟩ = some (.map (some m))) (hm : MapSt .u64 plV w m es) (hk : Keys1 es) (hwf : ∀ p ∈ es, (Lit.int .u64 p.1).wf = true) (hl : es.length ≤ 1000) :
    Calls Tryz.prog 161 #[keysV 211 c] w fun e w' => ∃ a cap ss, e = .returned (.slice a (List.length ss) cap) ∧ Aside (ss.Perm (es.map (·.1)) ∧ ss.Pairwise (· ≤ ·)) ∧ ListAt w' (.slice a (List.length ss) cap) ss ∧ Below w.heap.size w w' := by
  have ha := collect_calls hc hm hk hwf hl
  have HS := aside_of hl
  clear hc hm hk hwf hl
  unfold keysV at ha ⊢
  go_enter Tryz.func161, Tryz.ntmps161
  go_wp2_with (first
    | (go_at_call 201; refine ha.mono ?_; clear ha; rintro e w1 ⟨v, ss, he, hp, ho, b1⟩; subst he; have hs := sortOwn ho (by rw [hp.length_eq, List.length_map]; exact HS.out))
    | (go_at_call 202; refine hs.mono ?_; clear hs; rintro e w2 ⟨he, ys, hy, hle, hoy, b2⟩; subst he))
  have hsh : ∃ a cap, v = .slice a ys.length cap := by
    rcases hoy.2 with ⟨rfl, h0⟩ | ⟨g, cap, cur, rfl, _⟩
    · exact ⟨none, 0, by rw [List.eq_nil_of_length_eq_zero h0]; rfl⟩
    · exact ⟨_, cap, rfl⟩
  obtain ⟨a, cap, rfl⟩ := hsh
  go_ret
  exact ⟨a, cap, ys, rfl, aside_of ⟨hy.trans hp, hle⟩, .of_own hoy, b1.trans b2⟩

/-! ### what the rows tell -/

theorem heads_lt : ∀ {B : List (List Int)}, SortedR B → (B.map (·.headD 0)).Pairwise (· < ·)
  | [], _ => .nil
  | q :: B, hs => by
    obtain ⟨h1, h2⟩ := List.pairwise_cons.1 hs
    refine List.pairwise_cons.2 ⟨fun x hx => ?_, heads_lt h2⟩
    obtain ⟨r, hr, rfl⟩ := List.mem_map.1 hx
    exact h1 r hr

/-- The keys are the rows' heads. -/
theorem BagI.heads {m : Nat} {L : Value} {es : List (Int × Pl)} (h : BagI b m L es ns B w D R) : (es.map (·.1)).Perm (B.map (·.headD 0)) := by
  have n1 : (es.map (·.1)).Nodup := List.pairwise_map.2 h.keys
  have n2 : (B.map (·.headD 0)).Nodup := (heads_lt h.srt).imp fun h => by omega
  refine (List.perm_ext_iff_of_nodup n1 n2).2 fun x => ⟨fun hx => ?_, fun hx => ?_⟩
  · obtain ⟨p, hp, rfl⟩ := List.mem_map.1 hx
    obtain ⟨y, _, hr⟩ := h.ent p.1 p.2 (Keys1.get h.keys hp)
    obtain ⟨h1, _⟩ := h.mem hr
    exact List.mem_map.2 ⟨_, h1, rfl⟩
  · obtain ⟨r, hr, rfl⟩ := List.mem_map.1 hx
    have hf := rfind_of_mem h.srt hr
    cases ha : aget (r.headD 0) es with
    | none => rw [h.no _ ha] at hf; cases hf
    | some p => exact List.mem_map.2 ⟨_, aget_mem ha, rfl⟩

theorem sorted_same : ∀ {a c : List Int}, a.Perm c → a.Pairwise (· ≤ ·) → c.Pairwise (· < ·) → a = c := by
  intro a c hp ha hc
  exact hp.eq_of_pairwise (fun x y _ _ h1 h2 => by omega) ha (hc.imp fun h => by omega)

set_option maxRecDepth 100000 in
theorem pids (h : PBg w b ns B D R) (hl : B.length ≤ 1000) :
    Calls Tryz.prog 109 #[.pointer (some ⟨b, 0, none⟩)] w fun e w' => ∃ a cap, e = .returned (.slice a B.length cap) ∧ ListAt w' (.slice a B.length cap) (B.map (·.headD 0)) ∧ Below w.heap.size w w' := by
  obtain ⟨⟨m, L, es, h1⟩, _, _⟩ := h
  have hH := h1.heads
  have hkk := keysP_calls (w := w) m
  have q0 := h1.bag.cell
  have HS := aside_of (And.intro h1.bag.2 (And.intro h1.keys (And.intro hH (And.intro (heads_lt h1.srt) (And.intro (fun p (hp : p ∈ es) => (by
    obtain ⟨y, _, hr⟩ := h1.ent p.1 p.2 (Keys1.get h1.keys hp)
    have := (h1.mem hr).2
    simp only [fiveK, colWfs, colWf, Bool.and_eq_true, rowP] at this
    exact this.1 : (Lit.int .u64 p.1).wf = true)) (show es.length ≤ 1000 by have := hH.length_eq; simp only [List.length_map] at this; omega))))))
  clear h1 hH hl
  go_enter Tryz.func109, Tryz.ntmps109
  go_wp2_with (first
    | (go_at_call 176; with_reducible refine hkk.mono ?_; clear hkk; rintro e w1 ⟨c, he, hc, b1⟩; subst he; have hs := sorted_calls hc (HS.out.1.below b1 HS.out.1.lt) HS.out.2.1 HS.out.2.2.2.2.1 HS.out.2.2.2.2.2)
    | (go_at_call 161; with_reducible refine hs.mono ?_; clear hs; rintro e w2 ⟨a, cap, ss, he, hp, hL, b2⟩; subst he))
  have he : ss = B.map (·.headD 0) := sorted_same (hp.out.1.trans HS.out.2.2.1) hp.out.2 HS.out.2.2.2.1
  have hlen : ss.length = B.length := by rw [he, List.length_map]
  rw [hlen] at hL ⊢
  rw [he] at hL
  go_ret
  exact ⟨a, cap, rfl, hL, b1.trans (b2.mono b1.size)⟩

end Go.Proofs.YtbdnlaepeladbaaGreatDoor

namespace Go.Proofs.YtbdnlaepeladbaaGreatDoor
open Go.ChangeShapes Go.WideShapes Go.ChangeAt Go.RowKit Go.Eng

variable {w w' : World} {b : Nat} {ns : List Int} {B : List (List Int)} {D R : Nat → Prop}

set_option maxHeartbeats 2000000 in
set_option maxRecDepth 1000000 in
theorem pcount (h : PBg w b ns B D R) (hl : B.length ≤ 1000) (s : Int) :
    Calls Tryz.prog 55 #[.pointer (some ⟨b, 0, none⟩), .int .i64 s] w fun e w' => e = .returned (.int .i64 (countB B s)) ∧ Below w.heap.size w w' := by
  have hi := pids h hl
  have HP := aside_of (And.intro h hl)
  obtain ⟨n, hn⟩ : ∃ n, n = B.length := ⟨_, rfl⟩
  have HN : Aside (n = B.length) := hn
  rw [← hn] at hi
  have hn1000 : n ≤ 1000 := by rw [hn]; exact hl
  clear h hl hn
  go_enter Tryz.func55, Tryz.ntmps55
  go_wp2_with (go_at_call 109; with_reducible refine hi.mono ?_; clear hi; rintro e w1 ⟨a, cap, he, hL, b1⟩; subst he)
  have HL := aside_of (And.intro hL b1)
  clear hL b1
  go_loopg [5, 13] n (fun gh v5 v13 wx => ∃ k : Nat, k ≤ n ∧ gh = n - k ∧ v13 = .int .i64 k ∧ v5 = .int .i64 (countB (B.take k) s : Nat) ∧ Aside (Below w1.heap.size w1 wx))
  case atStart => exact ⟨0, Nat.zero_le _, rfl, rfl, rfl, aside_of (Below.refl _ _)⟩
  case round =>
    obtain ⟨k, hk, rfl, rfl, rfl, hb⟩ := hrel
    by_cases hlt : k < n
    · obtain ⟨r, hr⟩ : ∃ r, B[k]? = some r := ⟨_, List.getElem?_eq_getElem (by rw [← HN.out]; exact hlt)⟩
      have hP := HP.out.1.below (HL.out.2.trans (hb.out.mono HL.out.2.size))
      obtain ⟨hw, hf⟩ := hP.rows hr
      obtain ⟨x0, x1, x2, x3, x4, rfl, _, w1', _⟩ := five_row hw
      simp only [List.headD_cons, List.tail_cons] at hf
      obtain ⟨n1, rfl, hn1⟩ := u64n w1'
      have hld := pload hP x0
      have hwr : wordR B x0 = n1 := by unfold wordR; rw [hf]; rfl
      rw [hwr, hf] at hld
      have hst := fun v => state_calls n1 hn1 v
      obtain ⟨q, hq⟩ : ∃ q : Int, q = ((n1 % 4 : Nat) : Int) := ⟨_, rfl⟩
      have HQ := aside_of (show q = (n1 : Int) % 4 by rw [hq]; simp)
      rw [← hq] at hst
      clear hq
      have hLr := HL.out.1.below hb.out
      obtain ⟨g, rfl⟩ : ∃ g, a = some ⟨g, 0, none⟩ := by
        rcases hLr with ⟨e, _⟩ | ⟨g, cap', cs, e, _⟩
        · simp only [Value.slice.injEq] at e
          omega
        · simp only [Value.slice.injEq] at e
          exact ⟨g, e.1⟩
      have c0 := hLr.cell.2.2.2 k x0 (by rw [List.getElem?_map, hr]; rfl)
      have hstep := aside_of (countB_step hr s)
      have hle := aside_of (countB_le (B.take k) s)
      have HB := aside_of (And.intro (And.intro HP.out.2 hr) hb.out)
      clear hP hw hf w1' hwr hLr hr hb hn1
      have hki : (k : Int) < (n : Int) := by omega
      have h63 : (countB (B.take k) s : Int) + 1 < 9223372036854775808 := by
        have := hle.out
        have h2 : (B.take k).length ≤ k := List.length_take_le _ _
        have := HN.out
        have := HB.out.1.1
        omega
      simp only [List.tail_cons, List.headD_cons] at hstep
      by_cases e : q = s
      · have e' : (q == s) = true := by simpa using e
        have hstep' : countB (B.take (k + 1)) s = countB (B.take k) s + 1 := by
          have e2 : ((n1 : Int) % 4 == s) = true := by rw [← HQ.out]; exact e'
          have := hstep.out
          rw [e2] at this
          exact this
        have HS := aside_of hstep'
        clear hstep hstep'
        go_wp2_with (first
          | (go_at_call 32; with_reducible refine hld.mono ?_; clear hld; rintro e w2 ⟨he, b2⟩; subst he; have hst2 := hst w2)
          | (go_at_call 134; with_reducible refine hst2.mono ?_; clear hst2; rintro e w3 ⟨he, hw3⟩; subst he hw3))
        go_roundg (n - (k + 1))
        case measure => omega
        case rel => exact ⟨k + 1, by omega, rfl, by go_num, by rw [HS.out]; go_num, aside_of (HB.out.2.trans (b2.mono HB.out.2.size))⟩
      · have e' : (q == s) = false := by simpa using e
        have hstep' : countB (B.take (k + 1)) s = countB (B.take k) s := by
          have e2 : ((n1 : Int) % 4 == s) = false := by rw [← HQ.out]; exact e'
          have := hstep.out
          rw [e2] at this
          exact this
        have HS := aside_of hstep'
        clear hstep hstep'
        go_wp2_with (first
          | (go_at_call 32; with_reducible refine hld.mono ?_; clear hld; rintro e w2 ⟨he, b2⟩; subst he; have hst2 := hst w2)
          | (go_at_call 134; with_reducible refine hst2.mono ?_; clear hst2; rintro e w3 ⟨he, hw3⟩; subst he hw3))
        go_roundg (n - (k + 1))
        case measure => omega
        case rel => exact ⟨k + 1, by omega, rfl, by go_num, by rw [HS.out], aside_of (HB.out.2.trans (b2.mono HB.out.2.size))⟩
    · have hki : ¬ (k : Int) < (n : Int) := by omega
      have ht := aside_of (show countB (B.take k) s = countB B s by rw [show k = B.length by have := HN.out; omega, List.take_length])
      go_wp2
      go_ret
      exact ⟨by rw [ht.out]; rfl, HL.out.2.trans (hb.out.mono HL.out.2.size)⟩

end Go.Proofs.YtbdnlaepeladbaaGreatDoor
