/- What Held, Flagged and Len hand back. Conditions: how the book lies in memory. -/
import Derived.Test.YtbdnlaepeladbaaGreatDoorBkB
namespace Go.Proofs.YtbdnlaepeladbaaGreatDoor
open Go.ChangeShapes Go.WideShapes Go.ChangeAt Go.RowKit Go.Eng

variable {w w' : World} {b ml mm wl mt : Nat} {B : BK} {tm : List (Int × Int)}

theorem ids_perm {ls : List (Int × Le)} (hk : Keys1 ls) (p : Le → Bool) {ss : List Int} (hs : ss.Perm (ls.map (·.1))) : (ss.filter fun id => p ((aget id ls).getD ⟨0, 0, false⟩)).Perm ((ls.filter fun x => p x.2).map (·.1)) := by
  refine (hs.filter _).trans (List.Perm.of_eq ?_)
  rw [List.filter_map]
  congr 1
  refine List.filter_congr fun x hx => ?_
  simp only [Function.comp]
  rw [Keys1.get hk hx]
  rfl

theorem filter_take {ss : List Int} {k : Nat} {id : Int} (h : ss[k]? = some id) (q : Int → Bool) : (ss.take (k + 1)).filter q = (ss.take k).filter q ++ (if q id then [id] else []) := by
  rw [List.take_add_one, h, List.filter_append]
  simp only [Option.toList_some, List.filter_cons, List.filter_nil]

theorem own_below {base size n : Nat} {e : TypeId} {v : Value} {xs : List Value} (h : w.ownsRow base e size v n xs) (hb : Below w.heap.size w w') : w'.ownsRow base e size v n xs := by
  refine ⟨h.1, ?_⟩
  rcases h.2 with h1 | ⟨g, cap, cur, h1, h2, h3, h4⟩
  · exact .inl h1
  · exact .inr ⟨g, cap, cur, h1, h2, (hb.block g (Array.getElem?_eq_some_iff.1 h3).1).trans h3, h4⟩

set_option maxHeartbeats 1000000 in
set_option maxRecDepth 1000000 in
theorem idsHeld_calls (hS : SortedLs) (h : BkAt w b ml mm wl mt B) (hl : B.ls.length ≤ 1000) (hwf : ∀ p ∈ B.ls, (Lit.int .u64 p.1).wf = true) {c : Nat} (p : Le → Bool)
    (hf : ∀ (x : Le) (v : World), Below w.heap.size w v → Calls Tryz.prog 75 #[leV x, .pointer (some ⟨c, 0, none⟩)] v fun e w' => e = .returned (.bool (p x)) ∧ Below v.heap.size v w') :
    Calls Tryz.prog 74 #[.pointer (some ⟨b, 0, none⟩), .func (.func 75) #[] #[.pointer (some ⟨c, 0, none⟩)]] w fun e w' => ∃ a cap R, e = .returned (.slice a (List.length R) cap) ∧ Rising R ((B.ls.filter fun x => p x.2).map (·.1)) ∧ IdsAt w' a R ∧ Below w.heap.size w w' := by
  obtain ⟨i0, hi, hz0, hz1, hz2⟩ := info_partsU infoW
  have H0 := aside_of (And.intro h (And.intro hl hwf))
  have HS := aside_of hS
  have HF := aside_of hf
  have q1 := h.q1
  have hk := keysL_calls (w := w) ml
  clear h hl hwf hS hf
  go_enter Tryz.func74, Tryz.ntmps74
  go_wp2_with (first
    | (go_at_call 162; refine hk.mono ?_; clear hk; rintro e w1 ⟨c2, he, hc, b1⟩; subst he; have hs := HS.out w1 c2 ml B.ls hc (H0.out.1.below b1).ls H0.out.1.kl H0.out.2.2 H0.out.2.1; clear hc)
    | (go_at_call 161; with_reducible refine hs.mono ?_; clear hs; rintro e w2 ⟨a, cap, ss, he, hperm, hI, b2⟩; subst he))
  have b12 := b1.trans (b2.mono b1.size)
  have HP := aside_of hperm
  have HL := aside_of (H0.out.1.below b12)
  have hsl : List.length ss ≤ 1000 := by rw [hperm.perm.length_eq, List.length_map]; exact H0.out.2.1
  have HI := aside_of hI
  have HB12 := aside_of b12
  clear hperm hI b1 b2 b12
  generalize hz : List.length ss = n at hsl
  have HN := aside_of hz
  clear hz
  obtain ⟨q, hq⟩ : ∃ q : Int → Bool, q = fun id => p ((aget id B.ls).getD ⟨0, 0, false⟩) := ⟨_, rfl⟩
  have HQ := aside_of hq
  clear hq
  go_loopg [5, 17] n (fun gh v5 v17 wr => ∃ k : Nat, k ≤ n ∧ gh = n - k ∧ v17 = .int .i64 k ∧ Below w2.heap.size w2 wr ∧ wr.ownsRow w2.heap.size 22 1 v5 ((ss.take k).filter q).length (((ss.take k).filter q).map (Value.int .u64)))
  case atStart => exact ⟨0, Nat.zero_le _, rfl, rfl, Below.refl _ _, World.ownsRow_nil w2 _ 22 1⟩
  case round =>
    obtain ⟨k, hk, rfl, rfl, b3, hown⟩ := hrel
    obtain ⟨a5, c5, rfl⟩ := own_shapeU hown
    by_cases hkn : k < n
    · obtain ⟨id, hid⟩ : ∃ id, ss[k]? = some id := ⟨_, List.getElem?_eq_getElem (by have := HN.out; omega)⟩
      obtain ⟨j, o, rfl, hc⟩ := (HI.out.upto (Upto.of_below (S := fun _ => False) b3) (by rintro k ⟨⟩)).cell k id hid
      have hB := HL.out.below b3
      have q1 := hB.q1
      have hl := look_le0 hB id
      have hff := fun x => HF.out x wr (HB12.out.trans (b3.mono HB12.out.size))
      have hft := filter_take hid q
      have hqx : q id = p ((aget id B.ls).getD ⟨0, 0, false⟩) := by rw [HQ.out]
      generalize (aget id B.ls).getD ⟨0, 0, false⟩ = x at hl hqx
      have hfx := hff x
      rw [← hqx] at hfx
      have hkn' : (k : Int) < (n : Int) := by omega
      have hzl : ((ss.take k).filter q).length ≤ 1000 := Nat.le_trans (List.length_filter_le _ _) (by rw [List.length_take]; omega)
      generalize hR : (ss.take k).filter q = R at hown hft hzl
      have HO := aside_of (And.intro hown b3)
      generalize hz : R.length = z at hzl HO
      have HZ := aside_of hz
      clear hB hff hqx hown b3 hR hz hid
      cases hqq : q id with
      | false =>
        rw [hqq] at hfx hft
        simp only [Bool.false_eq_true, if_false, List.append_nil] at hft
        have HT := aside_of hft
        clear hft hqq
        go_wp2_with (go_at_call 75; with_reducible refine hfx.mono ?_; clear hfx; rintro e w4 ⟨he, b4⟩; subst he)
        go_roundg (n - (k + 1))
        case measure => omega
        case rel =>
          refine ⟨k + 1, by omega, rfl, by go_num, HO.out.2.trans (b4.mono HO.out.2.size), ?_⟩
          rw [HT.out, HZ.out]
          exact own_below HO.out.1 b4
      | true =>
        rw [hqq] at hfx hft
        simp only [if_true] at hft
        have HT := aside_of hft
        clear hft hqq
        go_wp2_with (first
          | (go_at_call 75; with_reducible refine hfx.mono ?_; clear hfx; rintro e w4 ⟨he, b4⟩; subst he; have O4 := own_below HO.out.1 b4; have s4 : w2.heap.size ≤ w4.heap.size := Nat.le_trans HO.out.2.size b4.size)
          | (at_builtin; refine wpList_append_own _ rfl (.tmp 29) (.tmp 31) 33 rfl w2.heap.size 22 i0 (.int .u64 0) 1 8 Tryz.underlying33 hi hz0 hz1 hz2 rfl (by decide) (.slice a5 z c5) z (R.map (Value.int .u64)) rfl (World.ownsRow.alloc O4 _) ⟨w4.heap.size, 0, none⟩ 1 1 [.int .u64 id] rfl rfl (own_oneU _ _) (by simp [Value.oneCell']) (by unfold maxLen; omega) (by omega) (by simp; omega) ?_; intro v7 w7 own7 gr7 _; have b7 : Below w2.heap.size w4 w7 := ((Below.refl w2.heap.size w4).alloc s4 _).trans (grown_ownU (by simp; omega) (World.ownsRow.alloc O4 _) gr7); obtain ⟨a7, c7, rfl⟩ := own_shapeU own7))
        go_roundg (n - (k + 1))
        case measure => omega
        case rel =>
          have hlen : (R ++ [id]).length = z + 1 := by rw [List.length_append, HZ.out]; rfl
          refine ⟨k + 1, by omega, rfl, by go_num, (HO.out.2.trans (b4.mono HO.out.2.size)).trans b7, ?_⟩
          rw [HT.out, hlen, List.map_append]
          exact own7
    · obtain rfl : k = n := by omega
      have ht : ss.take k = ss := by rw [← HN.out, List.take_length]
      have hlen : ((ss.take k).filter q).length = (ss.filter q).length := by rw [ht]
      rw [ht] at hown
      generalize hR : ss.filter q = R at hown hlen
      have hRp : Rising R ((B.ls.filter fun x => p x.2).map (·.1)) := by
        rw [← hR, HQ.out]; exact ⟨ids_perm H0.out.1.kl p HP.out.perm, HP.out.le.filter _⟩
      have HR := aside_of (And.intro hRp (And.intro hown b3))
      have HZ := aside_of hlen
      clear ht hR hRp hown b3 hlen
      go_wp2
      go_ret
      refine ⟨a5, c5, R, by rw [← HZ.out]; rfl, HR.out.1, .of_own HR.out.2.1, HB12.out.trans (HR.out.2.2.mono HB12.out.size)⟩

set_option maxHeartbeats 1000000 in
set_option maxRecDepth 1000000 in
theorem idsFlagged_calls (hS : SortedLs) (h : BkAt w b ml mm wl mt B) (hl : B.ls.length ≤ 1000) (hwf : ∀ p ∈ B.ls, (Lit.int .u64 p.1).wf = true) (p : Le → Bool)
    (hf : ∀ (x : Le) (v : World), Below w.heap.size w v → Calls Tryz.prog 78 #[leV x] v fun e w' => e = .returned (.bool (p x)) ∧ Below v.heap.size v w') :
    Calls Tryz.prog 74 #[.pointer (some ⟨b, 0, none⟩), .func (.func 78) #[] #[]] w fun e w' => ∃ a cap R, e = .returned (.slice a (List.length R) cap) ∧ Rising R ((B.ls.filter fun x => p x.2).map (·.1)) ∧ IdsAt w' a R ∧ Below w.heap.size w w' := by
  obtain ⟨i0, hi, hz0, hz1, hz2⟩ := info_partsU infoW
  have H0 := aside_of (And.intro h (And.intro hl hwf))
  have HS := aside_of hS
  have HF := aside_of hf
  have q1 := h.q1
  have hk := keysL_calls (w := w) ml
  clear h hl hwf hS hf
  go_enter Tryz.func74, Tryz.ntmps74
  go_wp2_with (first
    | (go_at_call 162; refine hk.mono ?_; clear hk; rintro e w1 ⟨c2, he, hc, b1⟩; subst he; have hs := HS.out w1 c2 ml B.ls hc (H0.out.1.below b1).ls H0.out.1.kl H0.out.2.2 H0.out.2.1; clear hc)
    | (go_at_call 161; with_reducible refine hs.mono ?_; clear hs; rintro e w2 ⟨a, cap, ss, he, hperm, hI, b2⟩; subst he))
  have b12 := b1.trans (b2.mono b1.size)
  have HP := aside_of hperm
  have HL := aside_of (H0.out.1.below b12)
  have hsl : List.length ss ≤ 1000 := by rw [hperm.perm.length_eq, List.length_map]; exact H0.out.2.1
  have HI := aside_of hI
  have HB12 := aside_of b12
  clear hperm hI b1 b2 b12
  generalize hz : List.length ss = n at hsl
  have HN := aside_of hz
  clear hz
  obtain ⟨q, hq⟩ : ∃ q : Int → Bool, q = fun id => p ((aget id B.ls).getD ⟨0, 0, false⟩) := ⟨_, rfl⟩
  have HQ := aside_of hq
  clear hq
  go_loopg [5, 17] n (fun gh v5 v17 wr => ∃ k : Nat, k ≤ n ∧ gh = n - k ∧ v17 = .int .i64 k ∧ Below w2.heap.size w2 wr ∧ wr.ownsRow w2.heap.size 22 1 v5 ((ss.take k).filter q).length (((ss.take k).filter q).map (Value.int .u64)))
  case atStart => exact ⟨0, Nat.zero_le _, rfl, rfl, Below.refl _ _, World.ownsRow_nil w2 _ 22 1⟩
  case round =>
    obtain ⟨k, hk, rfl, rfl, b3, hown⟩ := hrel
    obtain ⟨a5, c5, rfl⟩ := own_shapeU hown
    by_cases hkn : k < n
    · obtain ⟨id, hid⟩ : ∃ id, ss[k]? = some id := ⟨_, List.getElem?_eq_getElem (by have := HN.out; omega)⟩
      obtain ⟨j, o, rfl, hc⟩ := (HI.out.upto (Upto.of_below (S := fun _ => False) b3) (by rintro k ⟨⟩)).cell k id hid
      have hB := HL.out.below b3
      have q1 := hB.q1
      have hl := look_le0 hB id
      have hff := fun x => HF.out x wr (HB12.out.trans (b3.mono HB12.out.size))
      have hft := filter_take hid q
      have hqx : q id = p ((aget id B.ls).getD ⟨0, 0, false⟩) := by rw [HQ.out]
      generalize (aget id B.ls).getD ⟨0, 0, false⟩ = x at hl hqx
      have hfx := hff x
      rw [← hqx] at hfx
      have hkn' : (k : Int) < (n : Int) := by omega
      have hzl : ((ss.take k).filter q).length ≤ 1000 := Nat.le_trans (List.length_filter_le _ _) (by rw [List.length_take]; omega)
      generalize hR : (ss.take k).filter q = R at hown hft hzl
      have HO := aside_of (And.intro hown b3)
      generalize hz : R.length = z at hzl HO
      have HZ := aside_of hz
      clear hB hff hqx hown b3 hR hz hid
      cases hqq : q id with
      | false =>
        rw [hqq] at hfx hft
        simp only [Bool.false_eq_true, if_false, List.append_nil] at hft
        have HT := aside_of hft
        clear hft hqq
        go_wp2_with (go_at_call 78; with_reducible refine hfx.mono ?_; clear hfx; rintro e w4 ⟨he, b4⟩; subst he)
        go_roundg (n - (k + 1))
        case measure => omega
        case rel =>
          refine ⟨k + 1, by omega, rfl, by go_num, HO.out.2.trans (b4.mono HO.out.2.size), ?_⟩
          rw [HT.out, HZ.out]
          exact own_below HO.out.1 b4
      | true =>
        rw [hqq] at hfx hft
        simp only [if_true] at hft
        have HT := aside_of hft
        clear hft hqq
        go_wp2_with (first
          | (go_at_call 78; with_reducible refine hfx.mono ?_; clear hfx; rintro e w4 ⟨he, b4⟩; subst he; have O4 := own_below HO.out.1 b4; have s4 : w2.heap.size ≤ w4.heap.size := Nat.le_trans HO.out.2.size b4.size)
          | (at_builtin; refine wpList_append_own _ rfl (.tmp 29) (.tmp 31) 33 rfl w2.heap.size 22 i0 (.int .u64 0) 1 8 Tryz.underlying33 hi hz0 hz1 hz2 rfl (by decide) (.slice a5 z c5) z (R.map (Value.int .u64)) rfl (World.ownsRow.alloc O4 _) ⟨w4.heap.size, 0, none⟩ 1 1 [.int .u64 id] rfl rfl (own_oneU _ _) (by simp [Value.oneCell']) (by unfold maxLen; omega) (by omega) (by simp; omega) ?_; intro v7 w7 own7 gr7 _; have b7 : Below w2.heap.size w4 w7 := ((Below.refl w2.heap.size w4).alloc s4 _).trans (grown_ownU (by simp; omega) (World.ownsRow.alloc O4 _) gr7); obtain ⟨a7, c7, rfl⟩ := own_shapeU own7))
        go_roundg (n - (k + 1))
        case measure => omega
        case rel =>
          have hlen : (R ++ [id]).length = z + 1 := by rw [List.length_append, HZ.out]; rfl
          refine ⟨k + 1, by omega, rfl, by go_num, (HO.out.2.trans (b4.mono HO.out.2.size)).trans b7, ?_⟩
          rw [HT.out, hlen, List.map_append]
          exact own7
    · obtain rfl : k = n := by omega
      have ht : ss.take k = ss := by rw [← HN.out, List.take_length]
      have hlen : ((ss.take k).filter q).length = (ss.filter q).length := by rw [ht]
      rw [ht] at hown
      generalize hR : ss.filter q = R at hown hlen
      have hRp : Rising R ((B.ls.filter fun x => p x.2).map (·.1)) := by
        rw [← hR, HQ.out]; exact ⟨ids_perm H0.out.1.kl p HP.out.perm, HP.out.le.filter _⟩
      have HR := aside_of (And.intro hRp (And.intro hown b3))
      have HZ := aside_of hlen
      clear ht hR hRp hown b3 hlen
      go_wp2
      go_ret
      refine ⟨a5, c5, R, by rw [← HZ.out]; rfl, HR.out.1, .of_own HR.out.2.1, HB12.out.trans (HR.out.2.2.mono HB12.out.size)⟩

set_option maxHeartbeats 1000000 in
set_option maxRecDepth 1000000 in
theorem idsLen_calls (hS : SortedLs) (h : BkAt w b ml mm wl mt B) (hl : B.ls.length ≤ 1000) (hwf : ∀ p ∈ B.ls, (Lit.int .u64 p.1).wf = true) (p : Le → Bool)
    (hf : ∀ (x : Le) (v : World), Below w.heap.size w v → Calls Tryz.prog 76 #[leV x] v fun e w' => e = .returned (.bool (p x)) ∧ Below v.heap.size v w') :
    Calls Tryz.prog 74 #[.pointer (some ⟨b, 0, none⟩), .func (.func 76) #[] #[]] w fun e w' => ∃ a cap R, e = .returned (.slice a (List.length R) cap) ∧ Rising R ((B.ls.filter fun x => p x.2).map (·.1)) ∧ IdsAt w' a R ∧ Below w.heap.size w w' := by
  obtain ⟨i0, hi, hz0, hz1, hz2⟩ := info_partsU infoW
  have H0 := aside_of (And.intro h (And.intro hl hwf))
  have HS := aside_of hS
  have HF := aside_of hf
  have q1 := h.q1
  have hk := keysL_calls (w := w) ml
  clear h hl hwf hS hf
  go_enter Tryz.func74, Tryz.ntmps74
  go_wp2_with (first
    | (go_at_call 162; refine hk.mono ?_; clear hk; rintro e w1 ⟨c2, he, hc, b1⟩; subst he; have hs := HS.out w1 c2 ml B.ls hc (H0.out.1.below b1).ls H0.out.1.kl H0.out.2.2 H0.out.2.1; clear hc)
    | (go_at_call 161; with_reducible refine hs.mono ?_; clear hs; rintro e w2 ⟨a, cap, ss, he, hperm, hI, b2⟩; subst he))
  have b12 := b1.trans (b2.mono b1.size)
  have HP := aside_of hperm
  have HL := aside_of (H0.out.1.below b12)
  have hsl : List.length ss ≤ 1000 := by rw [hperm.perm.length_eq, List.length_map]; exact H0.out.2.1
  have HI := aside_of hI
  have HB12 := aside_of b12
  clear hperm hI b1 b2 b12
  generalize hz : List.length ss = n at hsl
  have HN := aside_of hz
  clear hz
  obtain ⟨q, hq⟩ : ∃ q : Int → Bool, q = fun id => p ((aget id B.ls).getD ⟨0, 0, false⟩) := ⟨_, rfl⟩
  have HQ := aside_of hq
  clear hq
  go_loopg [5, 17] n (fun gh v5 v17 wr => ∃ k : Nat, k ≤ n ∧ gh = n - k ∧ v17 = .int .i64 k ∧ Below w2.heap.size w2 wr ∧ wr.ownsRow w2.heap.size 22 1 v5 ((ss.take k).filter q).length (((ss.take k).filter q).map (Value.int .u64)))
  case atStart => exact ⟨0, Nat.zero_le _, rfl, rfl, Below.refl _ _, World.ownsRow_nil w2 _ 22 1⟩
  case round =>
    obtain ⟨k, hk, rfl, rfl, b3, hown⟩ := hrel
    obtain ⟨a5, c5, rfl⟩ := own_shapeU hown
    by_cases hkn : k < n
    · obtain ⟨id, hid⟩ : ∃ id, ss[k]? = some id := ⟨_, List.getElem?_eq_getElem (by have := HN.out; omega)⟩
      obtain ⟨j, o, rfl, hc⟩ := (HI.out.upto (Upto.of_below (S := fun _ => False) b3) (by rintro k ⟨⟩)).cell k id hid
      have hB := HL.out.below b3
      have q1 := hB.q1
      have hl := look_le0 hB id
      have hff := fun x => HF.out x wr (HB12.out.trans (b3.mono HB12.out.size))
      have hft := filter_take hid q
      have hqx : q id = p ((aget id B.ls).getD ⟨0, 0, false⟩) := by rw [HQ.out]
      generalize (aget id B.ls).getD ⟨0, 0, false⟩ = x at hl hqx
      have hfx := hff x
      rw [← hqx] at hfx
      have hkn' : (k : Int) < (n : Int) := by omega
      have hzl : ((ss.take k).filter q).length ≤ 1000 := Nat.le_trans (List.length_filter_le _ _) (by rw [List.length_take]; omega)
      generalize hR : (ss.take k).filter q = R at hown hft hzl
      have HO := aside_of (And.intro hown b3)
      generalize hz : R.length = z at hzl HO
      have HZ := aside_of hz
      clear hB hff hqx hown b3 hR hz hid
      cases hqq : q id with
      | false =>
        rw [hqq] at hfx hft
        simp only [Bool.false_eq_true, if_false, List.append_nil] at hft
        have HT := aside_of hft
        clear hft hqq
        go_wp2_with (go_at_call 76; with_reducible refine hfx.mono ?_; clear hfx; rintro e w4 ⟨he, b4⟩; subst he)
        go_roundg (n - (k + 1))
        case measure => omega
        case rel =>
          refine ⟨k + 1, by omega, rfl, by go_num, HO.out.2.trans (b4.mono HO.out.2.size), ?_⟩
          rw [HT.out, HZ.out]
          exact own_below HO.out.1 b4
      | true =>
        rw [hqq] at hfx hft
        simp only [if_true] at hft
        have HT := aside_of hft
        clear hft hqq
        go_wp2_with (first
          | (go_at_call 76; with_reducible refine hfx.mono ?_; clear hfx; rintro e w4 ⟨he, b4⟩; subst he; have O4 := own_below HO.out.1 b4; have s4 : w2.heap.size ≤ w4.heap.size := Nat.le_trans HO.out.2.size b4.size)
          | (at_builtin; refine wpList_append_own _ rfl (.tmp 29) (.tmp 31) 33 rfl w2.heap.size 22 i0 (.int .u64 0) 1 8 Tryz.underlying33 hi hz0 hz1 hz2 rfl (by decide) (.slice a5 z c5) z (R.map (Value.int .u64)) rfl (World.ownsRow.alloc O4 _) ⟨w4.heap.size, 0, none⟩ 1 1 [.int .u64 id] rfl rfl (own_oneU _ _) (by simp [Value.oneCell']) (by unfold maxLen; omega) (by omega) (by simp; omega) ?_; intro v7 w7 own7 gr7 _; have b7 : Below w2.heap.size w4 w7 := ((Below.refl w2.heap.size w4).alloc s4 _).trans (grown_ownU (by simp; omega) (World.ownsRow.alloc O4 _) gr7); obtain ⟨a7, c7, rfl⟩ := own_shapeU own7))
        go_roundg (n - (k + 1))
        case measure => omega
        case rel =>
          have hlen : (R ++ [id]).length = z + 1 := by rw [List.length_append, HZ.out]; rfl
          refine ⟨k + 1, by omega, rfl, by go_num, (HO.out.2.trans (b4.mono HO.out.2.size)).trans b7, ?_⟩
          rw [HT.out, hlen, List.map_append]
          exact own7
    · obtain rfl : k = n := by omega
      have ht : ss.take k = ss := by rw [← HN.out, List.take_length]
      have hlen : ((ss.take k).filter q).length = (ss.filter q).length := by rw [ht]
      rw [ht] at hown
      generalize hR : ss.filter q = R at hown hlen
      have hRp : Rising R ((B.ls.filter fun x => p x.2).map (·.1)) := by
        rw [← hR, HQ.out]; exact ⟨ids_perm H0.out.1.kl p HP.out.perm, HP.out.le.filter _⟩
      have HR := aside_of (And.intro hRp (And.intro hown b3))
      have HZ := aside_of hlen
      clear ht hR hRp hown b3 hlen
      go_wp2
      go_ret
      refine ⟨a5, c5, R, by rw [← HZ.out]; rfl, HR.out.1, .of_own HR.out.2.1, HB12.out.trans (HR.out.2.2.mono HB12.out.size)⟩

end Go.Proofs.YtbdnlaepeladbaaGreatDoor

namespace Go.Proofs.YtbdnlaepeladbaaGreatDoor
open Go.ChangeShapes Go.WideShapes Go.ChangeAt Go.RowKit Go.Eng

variable {w w' : World} {b ml mm wl mt : Nat} {B : BK} {tm : List (Int × Int)}

theorem cell_below {v v' : World} (h : Below v.heap.size v v') {j o : Nat} {x : Value} (hc : v.cell? ⟨j, o, none⟩ = some x) : v'.cell? ⟨j, o, none⟩ = some x := by
  have := h.block j (World.block_lt_of_cell? _ _ hc)
  simp only [World.cell?] at hc ⊢
  rw [this]; exact hc

set_option maxRecDepth 1000000 in
theorem heldB_calls (hS : SortedLs) (h : BkAt w b ml mm wl mt B) (hl : B.ls.length ≤ 1000) (hwf : ∀ p ∈ B.ls, (Lit.int .u64 p.1).wf = true) (t : Int) :
    Calls Tryz.prog 16 #[.pointer (some ⟨b, 0, none⟩), .int .i64 t] w fun e w' => ∃ a cap R, e = .returned (.slice a (List.length R) cap) ∧ Rising R ((B.ls.filter fun x => x.2.thread == t).map (·.1)) ∧ IdsAt w' a R ∧ Below w.heap.size w w' := by
  have b1 := below_alloc w (.cells #[.int .i64 t] 3)
  have hc : (w.alloc (.cells #[.int .i64 t] 3)).cell? ⟨w.heap.size, 0, none⟩ = some (.int .i64 t) := by simp only [World.cell?]; rw [heap_new]; rfl
  have hi := idsHeld_calls hS (h.below b1) hl hwf (c := w.heap.size) (fun x => x.thread == t) (fun x v hv => held1_calls (cell_below hv hc) x)
  have HB := aside_of b1
  clear h hl hwf hc b1 hS
  go_enter Tryz.func16, Tryz.ntmps16
  go_wp2_with (go_at_call 74; with_reducible refine hi.mono ?_; clear hi; rintro e w1 ⟨a, cap, R, he, hR, hI, b2⟩; subst he)
  go_ret
  exact ⟨a, cap, R, rfl, hR, hI, HB.out.trans (b2.mono HB.out.size)⟩

set_option maxRecDepth 1000000 in
theorem flaggedB_calls (hS : SortedLs) (h : BkAt w b ml mm wl mt B) (hl : B.ls.length ≤ 1000) (hwf : ∀ p ∈ B.ls, (Lit.int .u64 p.1).wf = true) :
    Calls Tryz.prog 19 #[.pointer (some ⟨b, 0, none⟩)] w fun e w' => ∃ a cap R, e = .returned (.slice a (List.length R) cap) ∧ Rising R ((B.ls.filter fun x => x.2.fl).map (·.1)) ∧ IdsAt w' a R ∧ Below w.heap.size w w' := by
  have hi := idsFlagged_calls hS h hl hwf (fun x => x.fl) (fun x v hv => flagged1_calls x)
  clear h hl hwf hS
  go_enter Tryz.func19, Tryz.ntmps19
  go_wp2_with (go_at_call 74; with_reducible refine hi.mono ?_; clear hi; rintro e w1 ⟨a, cap, R, he, hR, hI, b2⟩; subst he)
  go_ret
  exact ⟨a, cap, R, rfl, hR, hI, b2⟩

set_option maxRecDepth 1000000 in
theorem lenB_calls (hS : SortedLs) (h : BkAt w b ml mm wl mt B) (hl : B.ls.length ≤ 1000) (hwf : ∀ p ∈ B.ls, (Lit.int .u64 p.1).wf = true) :
    Calls Tryz.prog 17 #[.pointer (some ⟨b, 0, none⟩)] w fun e w' => e = .returned (.int .i64 B.ls.length) ∧ Below w.heap.size w w' := by
  have hi := idsLen_calls hS h hl hwf (fun _ => true) (fun x v hv => len1_calls x)
  clear h hl hwf hS
  go_enter Tryz.func17, Tryz.ntmps17
  go_wp2_with (go_at_call 74; with_reducible refine hi.mono ?_; clear hi; rintro e w1 ⟨a, cap, R, he, hR, hI, b2⟩; subst he)
  have hlen : R.length = B.ls.length := by rw [hR.perm.length_eq, List.length_map]; simp
  go_ret
  exact ⟨by rw [← hlen]; rfl, b2⟩

end Go.Proofs.YtbdnlaepeladbaaGreatDoor
