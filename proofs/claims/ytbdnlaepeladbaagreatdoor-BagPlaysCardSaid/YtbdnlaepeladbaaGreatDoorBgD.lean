/- The document's bag, part 2: Index, With, Publish. Conditions: how its lists lie in memory. -/
import Derived.Test.YtbdnlaepeladbaaGreatDoorBgC
set_option linter.unusedSimpArgs false
set_option linter.unusedVariables false
namespace Go.Proofs.YtbdnlaepeladbaaGreatDoor
open Go.ChangeShapes Go.WideShapes Go.ChangeAt Go.RowKit Go.Eng

theorem one_row {row : List Int} (h : colWfs [.int .u64] row = true) : ∃ a : Int, row = [a] ∧ (Lit.int .u64 a).wf = true := by
  match row, h with
  | [a], h => simp only [colWfs, colWf, Bool.and_eq_true] at h; exact ⟨a, rfl, h.1⟩
  | [], h => simp [colWfs] at h
  | a :: b :: l, h => simp [colWfs] at h

theorem LstAt.one {w : World} {b off n cap : Nat} {l : List (List Int)} (h : LstAt [.int .u64] w (.slice (some ⟨b, off, none⟩) n cap) l) {k : Nat} {a : Int} (hk : l[k]? = some [a]) :
    w.cell? ⟨b, off + k, none⟩ = some (.int .u64 a) := by
  obtain ⟨_, g⟩ := h.row hk
  have := g 0 (by decide)
  simpa [colVs, colV] using this

set_option maxHeartbeats 1000000 in
theorem rindex_some {w : World} {b off cap : Nat} {l : List (List Int)} (h : LstAt [.int .u64] w (.slice (some ⟨b, off, none⟩) l.length cap) l) (hm : l.length ≤ 1000000) (id : Int) :
    Calls Tryz.prog 172 #[.slice (some ⟨b, off, none⟩) l.length cap, .int .u64 id] w fun e w' => (∃ i : Int, e = .returned (.int .i64 i) ∧ ((i = -1 ∧ [id] ∉ l) ∨ (0 ≤ i ∧ [id] ∈ l))) ∧ w' = w := by
  have C : Aside (∀ {k : Nat} {a : Int}, l[k]? = some [a] → w.cell? ⟨b, off + k, none⟩ = some (.int .u64 a)) := fun hk => h.one hk
  have W5 : Aside (∀ {k : Nat} {row : List Int}, l[k]? = some row → colWfs [.int .u64] row = true) := fun hk => (h.row hk).1
  obtain ⟨n, hn⟩ : ∃ n, n = l.length := ⟨_, rfl⟩
  have HN : Aside (n = l.length) := hn
  rw [← hn] at hm ⊢
  clear h hn
  go_enter Tryz.func172, Tryz.ntmps172
  go_wp2
  go_loopg [9] n (fun gh i wx => w = wx ∧ ∃ k : Nat, k ≤ n ∧ gh = n - k ∧ i = .int .i64 k ∧ Aside (∀ j, j < k → l[j]? ≠ some [id]))
  case atStart => exact ⟨rfl, 0, Nat.zero_le _, rfl, rfl, fun j hj => by omega⟩
  case round =>
    obtain ⟨rfl, k, hk, rfl, rfl, hd⟩ := hrel
    by_cases hlt : k < n
    · obtain ⟨row, hp⟩ : ∃ row, l[k]? = some row := ⟨_, List.getElem?_eq_getElem (by rw [← HN.out]; exact hlt)⟩
      obtain ⟨x0, rfl, _⟩ := one_row (W5.out hp)
      have c0 := C.out hp
      have HP : Aside (l[k]? = some [x0]) := hp
      clear hp
      have hki : (k : Int) < (n : Int) := by omega
      by_cases e : x0 = id
      · have e' : (x0 == id) = true := by simpa using e
        go_wp2
        go_ret
        exact ⟨⟨k, rfl, .inr ⟨by omega, by have := List.mem_of_getElem? HP.out; rw [e] at this; exact this⟩⟩, rfl⟩
      · have e' : (x0 == id) = false := by simpa using e
        go_wp2
        go_roundg (n - (k + 1))
        case measure => omega
        case rel =>
          refine ⟨rfl, k + 1, by omega, rfl, by go_num, fun j hj hr => ?_⟩
          rcases Nat.lt_or_ge j k with g | g
          · exact hd.out j g hr
          · have : j = k := by omega
            rw [this, HP.out] at hr
            simp only [Option.some.injEq, List.cons.injEq, and_true] at hr
            exact e hr
    · obtain rfl : k = n := by omega
      go_wp2
      go_ret
      refine ⟨⟨-1, rfl, .inl ⟨rfl, fun hm => ?_⟩⟩, rfl⟩
      obtain ⟨j, hj⟩ := List.getElem?_of_mem hm
      have := (List.getElem?_eq_some_iff.1 hj).1
      exact hd.out j (by rw [HN.out]; exact this) hj

theorem rindex_nil (w : World) (id : Int) :
    Calls Tryz.prog 172 #[.slice none 0 0, .int .u64 id] w fun e w' => e = .returned (.int .i64 (-1)) ∧ w' = w := by
  go_enter Tryz.func172, Tryz.ntmps172
  go_wp2
  refine wp_loop_rounds 1 ?_
  rw [rounds_succ]
  go_wp2
  go_ret
  exact ⟨rfl, rfl⟩

/-- r3.Index, as far as it is asked. -/
theorem rindex_calls {w : World} {v : Value} {l : List (List Int)} (h : LstAt [.int .u64] w v l) (hm : l.length ≤ 1000000) (id : Int) :
    Calls Tryz.prog 172 #[v, .int .u64 id] w fun e w' => (∃ i : Int, e = .returned (.int .i64 i) ∧ ((i = -1 ∧ [id] ∉ l) ∨ (0 ≤ i ∧ [id] ∈ l))) ∧ w' = w := by
  rcases h.shape with ⟨rfl, rfl⟩ | ⟨b, off, cap, rfl, _⟩
  · exact (rindex_nil w id).mono fun e w' ⟨he, hw⟩ => ⟨⟨-1, he, .inl ⟨rfl, by simp⟩⟩, hw⟩
  · exact rindex_some h hm id

end Go.Proofs.YtbdnlaepeladbaaGreatDoor

namespace Go.Proofs.YtbdnlaepeladbaaGreatDoor
open Go.ChangeShapes Go.WideShapes Go.ChangeAt Go.RowKit Go.Eng

theorem rwith_in {w : World} {v : Value} {l : List (List Int)} (h : LstAt [.int .u64] w v l) (hm : l.length ≤ 100000) (id : Int) (hin : [id] ∈ l) :
    Calls Tryz.prog 102 #[v, .int .u64 id] w fun e w' => e = .returned v ∧ Below w.heap.size w w' := by
  have hf := fun (u : World) (hu : LstAt [.int .u64] u v l) => rindex_calls hu (by omega) id
  obtain ⟨a, n, c, rfl⟩ : ∃ a n c, v = .slice a n c := by
    rcases h.shape with ⟨h, _⟩ | ⟨b, o, c, h, _⟩
    · exact ⟨_, _, _, h⟩
    · exact ⟨_, _, _, h⟩
  have hf0 := (hf w h).mono fun e w' (he : (∃ i : Int, e = .returned (.int .i64 i) ∧ ((i = -1 ∧ [id] ∉ l) ∨ (0 ≤ i ∧ [id] ∈ l))) ∧ w' = w) => show (∃ i : Int, e = .returned (.int .i64 i) ∧ 0 ≤ i) ∧ w' = w from ⟨by
    obtain ⟨⟨i, h1, ⟨_, h2⟩ | ⟨h2, _⟩⟩, _⟩ := he
    · exact absurd hin h2
    · exact ⟨i, h1, h2⟩, he.2⟩
  clear hf h hin hm
  go_enter Tryz.func102, Tryz.ntmps102
  go_wp2_with (go_at_call 172; with_reducible refine hf0.mono ?_; rintro e w2 ⟨⟨i, rfl, hi⟩, rfl⟩)
  go_ret
  exact ⟨rfl, Below.refl _ _⟩

theorem infoW1 : (Tryz.prog.info? 22).map (fun i => (i.zero, i.size, i.bytes)) = some (some (.int .u64 0), 1, 8) := by kernel_rfl

theorem grown_own1 {w w' : World} {base n size : Nat} {e : TypeId} {v : Value} {xs : List Value} (hb : base ≤ w.heap.size) (h : w.ownsRow base e size v n xs) (hg : w.grownBy w' v.ownBlock) : Below base w w' :=
  (Below.refl base w).grown hg hb fun k hk => (World.ownsRow.lt h k hk).1

set_option maxHeartbeats 1000000 in
set_option maxRecDepth 1000000 in
theorem rwith_more {w : World} {b off cap : Nat} {l : List (List Int)} (h : LstAt [.int .u64] w (.slice (some ⟨b, off, none⟩) l.length cap) l) (hm : l.length ≤ 100000) (id : Int) (hid : (Lit.int .u64 id).wf = true) (hin : [id] ∉ l) (hne : 0 < l.length) :
    Calls Tryz.prog 102 #[.slice (some ⟨b, off, none⟩) l.length cap, .int .u64 id] w fun e w' => ∃ v', e = .returned v' ∧ LstAt [.int .u64] w' v' (l ++ [[id]]) ∧ NewV w v' ∧ Below w.heap.size w w' := by
  obtain ⟨i0, hi0, hz0, hz1, hz2⟩ := info_parts infoW1
  have hf0 := (rindex_calls h (by omega) id).mono fun e w' (he : (∃ i : Int, e = .returned (.int .i64 i) ∧ ((i = -1 ∧ [id] ∉ l) ∨ (0 ≤ i ∧ [id] ∈ l))) ∧ w' = w) => show e = .returned (.int .i64 (-1)) ∧ w' = w from ⟨by
    obtain ⟨⟨i, h1, ⟨h2, _⟩ | ⟨_, h2⟩⟩, _⟩ := he
    · rw [h1, h2]
    · exact absurd h2 hin, he.2⟩
  have hsrc := h.src (by decide)
  have hlen := flatV_len h.wfs
  have HO := flatV_one h.wfs
  have W5 := aside_of h.wfs
  obtain ⟨n, hn⟩ : ∃ n, n = l.length := ⟨_, rfl⟩
  have HN := aside_of hn
  have HF : (flatV [.int .u64] l).length = n * 1 := by rw [hlen, hn]; rfl
  rw [← hn] at hm hne hf0 ⊢
  clear h hn hlen hin
  go_enter Tryz.func102, Tryz.ntmps102
  go_wp2_with (first
    | (go_at_call 172; with_reducible refine hf0.mono ?_; rintro e w2 ⟨rfl, rfl⟩)
    | (at_builtin; refine wpList_append_grows _ rfl (.tmp 11) (.tmp 12) 33 rfl 22 i0 (.int .u64 0) 1 8 Tryz.underlying33 hi0 hz0 hz1 hz2 rfl (by decide) none 0 0 [] rfl (fun _ => ⟨rfl, rfl⟩) rfl (by intro _ h; cases h) ⟨b, off, none⟩ n cap (flatV [.int .u64] l) rfl HF hsrc HO (by omega) (by unfold maxLen; omega) (by omega) ?_; intro v' w4 hown hgrow; rw [Nat.zero_add, List.nil_append] at hown; obtain ⟨g4, cap4, rfl⟩ := own_shape hown hne; have b4 := (Below.refl w2.heap.size w2).grown hgrow (Nat.le_refl _) (by intro k hk; cases hk); have OW := aside_of hown; clear hown hgrow)
    | (at_builtin; refine wpList_append_own _ rfl (.tmp 14) (.tmp 16) 33 rfl w2.heap.size 22 i0 (.int .u64 0) 1 8 Tryz.underlying33 hi0 hz0 hz1 hz2 rfl (by decide) (.slice (some ⟨g4, 0, none⟩) n cap4) n (flatV [.int .u64] l) rfl (World.ownsRow.alloc OW.out _) ⟨w4.heap.size, 0, none⟩ 1 1 [.int .u64 id] rfl rfl (fun j u hj => by cases j with | zero => (simp at hj; subst hj; simp [Addr.add]) | succ j => simp at hj) (by simp [Value.oneCell']) (by unfold maxLen; omega) (by omega) (by have := b4.size; simp; omega) ?_; intro v7 w7 own7 gr7 _; have b7 : Below w2.heap.size w2 w7 := (b4.alloc b4.size _).trans (grown_own1 (by have := b4.size; simp; omega) (World.ownsRow.alloc OW.out _) gr7); obtain ⟨g7, cap7, rfl⟩ := own_shape own7 (Nat.succ_pos n)))
  have hfl : flatV [.int .u64] (l ++ [[id]]) = flatV [.int .u64] l ++ [.int .u64 id] := by simp [flatV, colVs, colV]
  rw [← hfl] at own7
  have L7 := own_lst (cols := [.int .u64]) (by decide) (fun row hr => by
    rcases List.mem_append.1 hr with hr | hr
    · exact W5.out row hr
    · simp only [List.mem_singleton] at hr
      subst hr
      simp only [colWfs, colWf, hid, Bool.and_self]) own7 (by rw [List.length_append, HN.out]; rfl)
  go_ret
  exact ⟨_, rfl, L7, own_new own7 (Nat.le_refl _), b7⟩

end Go.Proofs.YtbdnlaepeladbaaGreatDoor

namespace Go.Proofs.YtbdnlaepeladbaaGreatDoor
open Go.ChangeShapes Go.WideShapes Go.ChangeAt Go.RowKit Go.Eng

set_option maxHeartbeats 1000000 in
set_option maxRecDepth 1000000 in
theorem rwith_nil {w : World} {v : Value} (h : LstAt [.int .u64] w v []) (id : Int) (hid : (Lit.int .u64 id).wf = true) :
    Calls Tryz.prog 102 #[v, .int .u64 id] w fun e w' => ∃ v', e = .returned v' ∧ LstAt [.int .u64] w' v' [[id]] ∧ NewV w v' ∧ Below w.heap.size w w' := by
  obtain ⟨i0, hi0, hz0, hz1, hz2⟩ := info_parts infoW1
  have hf0 := (rindex_calls h (by simp) id).mono fun e w' (he : (∃ i : Int, e = .returned (.int .i64 i) ∧ ((i = -1 ∧ [id] ∉ ([] : List (List Int))) ∨ (0 ≤ i ∧ [id] ∈ ([] : List (List Int))))) ∧ w' = w) => show e = .returned (.int .i64 (-1)) ∧ w' = w from ⟨by
    obtain ⟨⟨i, h1, ⟨h2, _⟩ | ⟨_, h2⟩⟩, _⟩ := he
    · rw [h1, h2]
    · simp at h2, he.2⟩
  have hcase : v = .slice none 0 0 ∨ ∃ b off cap, v = .slice (some ⟨b, off, none⟩) 0 cap := by
    rcases h.shape with ⟨h, _⟩ | ⟨b, off, cap, h, _⟩
    · exact .inl h
    · exact .inr ⟨b, off, cap, h⟩
  clear h
  rcases hcase with rfl | ⟨b, off, cap, rfl⟩
  all_goals
    go_enter Tryz.func102, Tryz.ntmps102
    go_wp2_with (first
      | (go_at_call 172; with_reducible refine hf0.mono ?_; rintro e w2 ⟨rfl, rfl⟩)
      | (at_builtin; refine wpList_append_grows _ rfl (.tmp 14) (.tmp 16) 33 rfl 22 i0 (.int .u64 0) 1 8 Tryz.underlying33 hi0 hz0 hz1 hz2 rfl (by decide) none 0 0 [] rfl (fun _ => ⟨rfl, rfl⟩) rfl (by intro _ h; cases h) ⟨w2.heap.size, 0, none⟩ 1 1 [.int .u64 id] rfl rfl (fun j u hj => by cases j with | zero => (simp at hj; subst hj; simp [Addr.add]) | succ j => simp at hj) (by simp [Value.oneCell']) (by omega) (by unfold maxLen; omega) (by omega) ?_; intro v' w4 hown hgrow; rw [List.nil_append] at hown; have b4 := ((Below.refl w2.heap.size w2).alloc (Nat.le_refl _) (.cells #[.int .u64 id] 22)).grown hgrow (by simp) (by intro k hk; cases hk); obtain ⟨g4, cap4, rfl⟩ := own_shape hown (by decide)))
    have L7 := own_lst (cols := [.int .u64]) (l := [[id]]) (by decide) (fun row hr => by
      simp only [List.mem_singleton] at hr
      subst hr
      simp only [colWfs, colWf, hid, Bool.and_self]) (by simpa [flatV, colVs, colV] using hown) rfl
    go_ret
    exact ⟨_, rfl, L7, own_new hown (by simp), b4⟩

end Go.Proofs.YtbdnlaepeladbaaGreatDoor

namespace Go.Proofs.YtbdnlaepeladbaaGreatDoor
open Go.ChangeShapes Go.WideShapes Go.ChangeAt Go.RowKit Go.Eng

/-- r3.With. -/
theorem rwith_calls {w : World} {v : Value} {l : List (List Int)} (h : LstAt [.int .u64] w v l) (hm : l.length ≤ 100000) (id : Int) (hid : (Lit.int .u64 id).wf = true) :
    Calls Tryz.prog 102 #[v, .int .u64 id] w fun e w' => ∃ v', e = .returned v' ∧ LstAt [.int .u64] w' v' (if [id] ∈ l then l else l ++ [[id]]) ∧ (v' = v ∨ NewV w v') ∧ Below w.heap.size w w' := by
  by_cases hin : [id] ∈ l
  · rw [if_pos hin]
    refine (rwith_in h hm id hin).mono ?_
    rintro e w' ⟨rfl, hb⟩
    exact ⟨v, rfl, h.below hb, .inl rfl, hb⟩
  · rw [if_neg hin]
    by_cases hl : l = []
    · subst hl
      refine (rwith_nil h id hid).mono ?_
      rintro e w' ⟨v', rfl, h1, h2, h3⟩
      exact ⟨v', rfl, h1, .inr h2, h3⟩
    · have hlen : 0 < l.length := List.length_pos_iff.2 hl
      rcases h.shape with ⟨_, h0⟩ | ⟨b, off, cap, rfl, _⟩
      · exact absurd h0 hl
      · refine (rwith_more h hm id hid hin hlen).mono ?_
        rintro e w' ⟨v', rfl, h1, h2, h3⟩
        exact ⟨v', rfl, h1, .inr h2, h3⟩

set_option maxHeartbeats 1000000 in
set_option maxRecDepth 1000000 in
theorem rpublish_no {w : World} {a1 : Option Addr} {n1 c1 : Nat} {l : List (List Int)} (h : LstAt fiveK w (.slice a1 n1 c1) l) (hm : l.length ≤ 100000) (a2 : Option Addr) (n2 c2 : Nat) (id : Int) (hi : ∀ i, IsAt l id i → i = -1) :
    Calls Tryz.prog 38 #[.agg #[.slice a1 n1 c1, .slice a2 n2 c2], .int .u64 id] w fun e w' => e = .returned (.tuple #[.agg #[.slice a1 n1 c1, .slice a2 n2 c2], .int .i64 9]) ∧ Below w.heap.size w w' := by
  have b1 : Below w.heap.size w ((w.alloc (.cells #[.slice a1 n1 c1, .slice a2 n2 c2] 61)).alloc (.cells #[.slice none 0 0, .slice none 0 0] 61)) := ((Below.refl _ w).alloc (Nat.le_refl _) _).alloc (by simp) _
  have hf := (find_calls (h.below b1) (by omega) a2 n2 c2 id).mono fun e w' (he : (∃ i : Int, e = .returned (.int .i64 i) ∧ IsAt l id i) ∧ _) => show e = .returned (.int .i64 (-1)) ∧ _ from ⟨by obtain ⟨⟨i, h1, h2⟩, _⟩ := he; rw [h1, hi i h2], he.2⟩
  have H1 := aside_of (two_bags w (.slice a1 n1 c1) (.slice a2 n2 c2) (.slice none 0 0) (.slice none 0 0))
  clear h b1 hi hm
  go_enter Tryz.func38, Tryz.ntmps38
  go_wp2_with (go_at_call 99; with_reducible refine hf.mono ?_; rintro e w2 ⟨rfl, b2⟩; obtain ⟨q0, q1, q2⟩ := H1.out _ b2; obtain ⟨k0, k1, f0, f1⟩ := bag2 q0; obtain ⟨d0, d1, g0, g1⟩ := bag2 q1)
  refine bodyPost_ret (v := .tuple #[.agg #[.slice a1 n1 c1, .slice a2 n2 c2], .int .i64 9]) (by simp [results, Tryz.results38, go_sem, k0, k1, d0, d1, f0, f1, g0, g1]) rfl ⟨rfl, ?_⟩
  exact (q2.setCell (by simp) _).setCell (by simp) _

end Go.Proofs.YtbdnlaepeladbaaGreatDoor

namespace Go.Proofs.YtbdnlaepeladbaaGreatDoor
open Go.ChangeShapes Go.WideShapes Go.ChangeAt Go.RowKit Go.Eng

theorem LstAt.offv {cols : List TK} {w : World} {v : Value} {l : List (List Int)} (h : LstAt cols w v l) {p : Addr} (hp : ∀ c, blkOf v c → p.block ≠ c) (u : Value) : LstAt cols (w.setCell p u) v l := by
  rcases h.shape with ⟨e1, e2⟩ | ⟨b, o, c, e, _⟩
  · rw [e1, e2]; exact ⟨[], rfl, .inl ⟨rfl, rfl⟩⟩
  · have := hp b ⟨o, _, c, e⟩
    rw [e] at h ⊢
    exact h.off this u

set_option maxHeartbeats 1000000 in
set_option maxRecDepth 1000000 in
theorem rpublish_yes {w : World} {a1 a2 : Option Addr} {n1 c1 n2 c2 : Nat} {l l2 : List (List Int)} (h : LstAt fiveK w (.slice a1 n1 c1) l) (hm : l.length ≤ 100000) (h2 : LstAt [.int .u64] w (.slice a2 n2 c2) l2) (hm2 : l2.length ≤ 100000) (id : Int) (hid : (Lit.int .u64 id).wf = true) {k : Nat} (hi : ∀ i, IsAt l id i → i = k) :
    Calls Tryz.prog 38 #[.agg #[.slice a1 n1 c1, .slice a2 n2 c2], .int .u64 id] w fun e w' => ∃ v', e = .returned (.tuple #[.agg #[.slice a1 n1 c1, v'], .int .i64 0]) ∧ LstAt fiveK w' (.slice a1 n1 c1) l ∧ LstAt [.int .u64] w' v' (if [id] ∈ l2 then l2 else l2 ++ [[id]]) ∧ (v' = .slice a2 n2 c2 ∨ NewV w v') ∧ Below w.heap.size w w' := by
  have b1 : Below w.heap.size w ((w.alloc (.cells #[.slice a1 n1 c1, .slice a2 n2 c2] 61)).alloc (.cells #[.slice none 0 0, .slice none 0 0] 61)) := ((Below.refl _ w).alloc (Nat.le_refl _) _).alloc (by simp) _
  have hf := (find_calls (h.below b1) (by omega) a2 n2 c2 id).mono fun e w' (he : (∃ i : Int, e = .returned (.int .i64 i) ∧ IsAt l id i) ∧ _) => show e = .returned (.int .i64 (k : Int)) ∧ _ from ⟨by obtain ⟨⟨i, h1, h2⟩, _⟩ := he; rw [h1, hi i h2], he.2⟩
  have H1 := aside_of (two_bags w (.slice a1 n1 c1) (.slice a2 n2 c2) (.slice none 0 0) (.slice none 0 0))
  have WW : Aside (∀ v : World, Below w.heap.size w v → Calls Tryz.prog 102 #[.slice a2 n2 c2, .int .u64 id] v fun e w' => ∃ a' n' c', e = .returned (.slice a' n' c') ∧ Aside (LstAt [.int .u64] w' (.slice a' n' c') (if [id] ∈ l2 then l2 else l2 ++ [[id]]) ∧ (Value.slice a' n' c' = .slice a2 n2 c2 ∨ NewV v (.slice a' n' c'))) ∧ Below v.heap.size v w') := fun v hv => by
    refine (rwith_calls (h2.below hv) hm2 id hid).mono ?_
    rintro e w' ⟨v', rfl, g1, g2, g3⟩
    rcases g1.shape with ⟨rfl, _⟩ | ⟨b', o', c', rfl, _⟩
    · exact ⟨_, _, _, rfl, ⟨g1, g2⟩, g3⟩
    · exact ⟨_, _, _, rfl, ⟨g1, g2⟩, g3⟩
  have HL : Aside (∀ v : World, Below w.heap.size w v → LstAt fiveK v (.slice a1 n1 c1) l) := fun v hv => h.below hv
  have B1 := aside_of (blk_lt h)
  have B2 := aside_of (blk_lt h2)
  have h0 : ¬ (k : Int) < 0 := by omega
  generalize (if [id] ∈ l2 then l2 else l2 ++ [[id]]) = LL at WW ⊢
  clear h h2 b1 hi hm hm2 hid
  go_enter Tryz.func38, Tryz.ntmps38
  go_wp2_with (first
    | (go_at_call 99; with_reducible refine hf.mono ?_; rintro e w2 ⟨rfl, b2⟩; obtain ⟨q0, q1, q2⟩ := H1.out _ b2; obtain ⟨k0, k1, f0, f1⟩ := bag2 q0; obtain ⟨d0, d1, g0, g1⟩ := bag2 q1)
    | (go_at_call 102; with_reducible refine (WW.out _ q2).mono ?_; rintro e w3 ⟨a', n', c', rfl, G, b3⟩; obtain ⟨r0, r1, r2⟩ := H1.out _ (b2.trans (b3.mono b2.size)); obtain ⟨x0, x1, y0, y1⟩ := bag2 r0; obtain ⟨z0, z1, t0, t1⟩ := bag2 r1))
  obtain ⟨G1, G2⟩ := G.out
  have hsz : w.heap.size + 2 ≤ w2.heap.size := by have := b2.size; simp at this; omega
  have hv1 : ∀ c, blkOf (.slice a1 n1 c1) c → c < w.heap.size := B1.out
  have hv2 : ∀ c, blkOf (.slice a' n' c') c → c < w.heap.size ∨ w.heap.size + 2 ≤ c := fun c hc => by
    rcases G2 with e | hN
    · rw [e] at hc; exact .inl (B2.out c hc)
    · have := newV_blk hN c hc; exact .inr (by omega)
  refine bodyPost_ret (v := .tuple #[.agg #[.slice a1 n1 c1, .slice a' n' c'], .int .i64 0]) (by simp [results, Tryz.results38, go_sem, x0, x1, y0, y1, z0, z1, t0, t1]) rfl ⟨_, rfl, ?_, ?_, G2.imp (fun h => h) fun hN => hN.mono (by omega), ?_⟩
  · refine (((HL.out _ r2).offv (fun c hc => ?_) _).offv (fun c hc => ?_) _).offv (fun c hc => ?_) _
    all_goals (have := hv1 c hc; show _ ≠ c; simp only; omega)
  · refine ((G1.offv (fun c hc => ?_) _).offv (fun c hc => ?_) _).offv (fun c hc => ?_) _
    all_goals (have := hv2 c hc; show _ ≠ c; simp only; omega)
  · exact ((r2.setCell (by simp) _).setCell (by simp) _).setCell (by simp) _

end Go.Proofs.YtbdnlaepeladbaaGreatDoor

namespace Go.Proofs.YtbdnlaepeladbaaGreatDoor
open Go.ChangeShapes Go.WideShapes Go.ChangeAt Go.RowKit Go.Eng

variable {K : Fix}

def spRPublish : Eng.Spec where
  f := 38
  recv := none
  args := [.agg [.list 3, .list 2], .int .u64]
  res := fun _ ts nv => match ts with
    | [B, _, id] => .tuple [.agg [.tm .any (.var nv), .tm .any (.var (nv + 1))], .tm (.int .i64) (.app 115 [B, id])]
    | _ => .top
  gs' := fun _ _ _ => []
  news := fun _ ts nv => match ts with
    | [B, L, id] => [⟨3, .var nv, [B]⟩, ⟨2, .var (nv + 1), [.app 105 [L, B, id]]⟩]
    | _ => []
  nn := 2
  need := fun _ ts => match ts with
    | [B, L, _] => some [(B, 100000), (L, 100000)]
    | _ => none

theorem rpublish_spec (hb : BagOb K.ob) : SpecOk Tryz.prog K spRPublish := by
  intro E nv gs ts vs v xs w D R RO hfn hvar hrecv hD hRO hR hargs hneed
  obtain ⟨rfl, rfl, hD0⟩ := hrecv
  simp only [spRPublish, ArgRs] at hargs
  obtain ⟨_, _, _, _, rfl, hbag, ⟨_, _, _, _, rfl, hid, ⟨rfl, rfl⟩, rfl⟩, rfl⟩ := hargs
  obtain ⟨g1, g2, a1, n1, c1, a2, n2, c2, l1, l2, rfl, rfl, d1, d2, L1, L2, ro1, ro2⟩ := bag_arg hb hbag
  simp only [ArgR] at hid
  obtain ⟨t1, id, rfl, h1, w1, rfl⟩ := hid
  obtain ⟨l, hl, hl2⟩ := hneed
  simp only [spRPublish, List.cons_append, List.nil_append, Option.some.injEq] at hl
  subst hl
  have hlen1 : l1.length < 100000 := hl2 _ (List.mem_cons_self ..) _ d1
  have hlen2 : l2.length < 100000 := hl2 _ (List.mem_cons_of_mem _ (List.mem_singleton.2 rfl)) _ d2
  have dE : (Tm.app 115 [g1, t1]).den E = some (.int (knownE l1 id)) := den2 d1 h1 (appF_int (by decide) (by rw [hfn, hb.fn 115 (by decide)]; rfl))
  have dL : (Tm.app 105 [g2, g1, t1]).den E = some (.rows (publishL l2 l1 id)) := den3 d2 d1 h1 (appF_rows (by decide) (by rw [hfn, hb.fn 105 (by decide)]; rfl) (publishL_length _ _ _))
  have res : ∀ {a : Option Addr} {n c : Nat} {e : Int}, knownE l1 id = e → (Lit.int .i64 e).wf = true → VR (E.ext nv [.val (.slice a1 n1 c1), .val (.slice a n c)]) (spRPublish.res [] [g1, g2, t1] nv) (.tuple #[.agg #[.slice a1 n1 c1, .slice a n c], .int .i64 e]) := by
    intro a n c e he hw
    show VR _ (.tuple [.agg [.tm .any (.var nv), .tm .any (.var (nv + 1))], .tm (.int .i64) (.app 115 [g1, t1])]) _
    refine VRs.two (vrs_agg (xs := [_, _]) (VRs.cons (vr_any ext_new) (VRs.cons (vr_any ext_two) VRs.nil))) (vr_int ?_ hw)
    rw [Tm.den_mono (ext_le hvar) _ _ dE, he]
  show Calls Tryz.prog 38 #[.agg #[.slice a1 n1 c1, .slice a2 n2 c2], .int .u64 id] w _
  rcases isAt_one l1 id with ⟨_, hr, hi⟩ | ⟨k, row, hk, hrow, hr, hset, hi⟩
  · refine (rpublish_no L1 (by omega) a2 n2 c2 id hi).mono ?_
    rintro e w' ⟨rfl, hbl⟩
    have hP : publishL l2 l1 id = l2 := by unfold publishL; rw [hr]; rfl
    rw [hP] at dL
    exact ⟨_, _, _, _, _, _, rfl, post_bag hb hD0 rfl rfl rfl hvar (res (by unfold knownE; rw [hr]; rfl) (by decide)) (L1.below hbl) (L2.below hbl) d1 dL (fun c hc => .inl (ro1 c hc)) (fun c hc => .inl (ro2 c hc)) hbl⟩
  · refine (rpublish_yes L1 (by omega) L2 (by omega) id w1 hi).mono ?_
    rintro e w' ⟨v', rfl, LA, LB, hN, hbl⟩
    have hP : publishL l2 l1 id = if [id] ∈ l2 then l2 else l2 ++ [[id]] := by unfold publishL; rw [hr]; rfl
    rw [← hP] at LB
    obtain ⟨a', n', c', rfl⟩ : ∃ a n c, v' = .slice a n c := by
      rcases LB.shape with ⟨h, _⟩ | ⟨b, o, c, h, _⟩
      · exact ⟨_, _, _, h⟩
      · exact ⟨_, _, _, h⟩
    exact ⟨_, _, _, _, _, _, rfl, post_bag hb hD0 rfl rfl rfl hvar (res (by unfold knownE; rw [hr]; rfl) (by decide)) LA LB d1 dL (fun c hc => .inl (ro1 c hc)) (fun c hc => by
      rcases hN with e | hN
      · rw [e] at hc; exact .inl (ro2 c hc)
      · exact .inr (newV_blk hN c hc)) hbl⟩

end Go.Proofs.YtbdnlaepeladbaaGreatDoor
