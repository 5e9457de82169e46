/- The plain law: the program's book and the document's answer alike behind each act. Conditions: none. -/
import Derived.Test.YtbdnlaepeladbaaGreatDoorPlD
namespace Go.Proofs.YtbdnlaepeladbaaGreatDoor
open Go.Eng

/-- The program's book and the document's. -/
structure Rel (B : BK) (d : RK) (k : Nat) : Prop where
  leak : d.leak = B.leak
  kl : Keys1 B.ls
  srt : d.L.Pairwise (fun a b => a.1 < b.1)
  get : ∀ i, aget i B.ls = aget i d.L
  km : Keys1 B.ms
  ms : ∀ i, (aget i B.ms).getD false = decide (i ∈ d.M)
  kt : Keys1 B.tm
  kT : Keys1 d.T
  tsrt : d.T.Pairwise LtT
  tget : ∀ i, aget i B.tm = aget i d.T
  sub : ∀ p ∈ d.T, (aget p.1 d.L).isSome
  len : d.L.length ≤ k
  mlen : d.M.length ≤ k
  wf : ∀ p ∈ d.L, (Lit.int .u64 p.1).wf = true

theorem keys_of_lt {β : Type} {L : List (Int × β)} (h : L.Pairwise (fun a b => a.1 < b.1)) : Keys1 L := h.imp fun h => by omega

theorem perm_of_get {β : Type} {xs ys : List (Int × β)} (hx : Keys1 xs) (hy : Keys1 ys) (h : ∀ i, aget i xs = aget i ys) : xs.Perm ys := by
  have nd : ∀ {zs : List (Int × β)}, Keys1 zs → zs.Nodup := fun hz => List.Pairwise.imp (fun h e => h (by rw [e])) hz
  refine (List.perm_ext_iff_of_nodup (nd hx) (nd hy)).2 fun p => ⟨fun hp => ?_, fun hp => ?_⟩
  · have := Keys1.get hx hp
    rw [h] at this
    exact aget_mem this
  · have := Keys1.get hy hp
    rw [← h] at this
    exact aget_mem this

variable {B : BK} {d : RK} {k : Nat}

theorem Rel.kL (h : Rel B d k) : Keys1 d.L := keys_of_lt h.srt
theorem Rel.permL (h : Rel B d k) : B.ls.Perm d.L := perm_of_get h.kl h.kL h.get
theorem Rel.permT (h : Rel B d k) : B.tm.Perm d.T := perm_of_get h.kt h.kT h.tget
theorem Rel.tle (h : Rel B d k) : d.T.length ≤ d.L.length := keys_le h.kT h.kL fun i hi => by
  obtain ⟨a, ha⟩ := Option.isSome_iff_exists.1 hi
  exact h.sub _ (aget_mem ha)

theorem rising_eq {R X Y : List Int} (hR : Rising R X) (hp : X.Perm Y) (hY : Y.Pairwise (· ≤ ·)) : R = Y :=
  List.Perm.eq_of_pairwise (le := (· ≤ ·)) (fun _ _ _ _ h1 h2 => Int.le_antisymm h1 h2) hR.le hY (hR.perm.trans hp)

theorem Rel.same (h : Rel B d k) (id t : Int) : Same B d id t where
  get := h.get id
  held R hR := rising_eq hR ((h.permL.filter _).map _) (by
    refine List.pairwise_map.2 ((h.srt.filter _).imp fun h => by omega))
  flag R hR := rising_eq hR ((h.permL.filter _).map _) (by
    refine List.pairwise_map.2 ((h.srt.filter _).imp fun h => by omega))
  mark := h.ms id
  tm := h.permT.length_eq
  ln := h.permL.length_eq

theorem Rel.mono {m : Nat} (h : Rel B d k) (hm : k ≤ m) : Rel B d m := ⟨h.leak, h.kl, h.srt, h.get, h.km, h.ms, h.kt, h.kT, h.tsrt, h.tget, h.sub, Nat.le_trans h.len hm, Nat.le_trans h.mlen hm, h.wf⟩

theorem Rel.holds (h : Rel B d k) (id t : Int) : B.holds id t = d.holds id t := by
  unfold BK.holds RK.holds
  rw [h.get]
  cases aget id d.L <;> rfl

theorem aget_cons {β : Type} (i : Int) (p : Int × β) (L : List (Int × β)) : aget i (p :: L) = if i = p.1 then some p.2 else aget i L := rfl

theorem aget_filter {β : Type} {L : List (Int × β)} (id i : Int) : aget i (L.filter fun p => p.1 != id) = if i = id then none else aget i L := by
  induction L with
  | nil => simp [aget]
  | cons p L ih =>
    by_cases e : p.1 = id
    · rw [List.filter_cons, if_neg (by simpa using e), ih]
      by_cases hi : i = id
      · simp [hi]
      · rw [if_neg hi, if_neg hi, aget_cons, if_neg (by rw [e]; exact hi)]
    · rw [List.filter_cons, if_pos (by simpa using e)]
      rw [aget_cons, aget_cons]
      by_cases hi : i = p.1
      · rw [if_pos hi, if_pos hi, if_neg (by rw [hi]; exact e)]
      · rw [if_neg hi, if_neg hi]
        exact ih

theorem Rel.end_ (h : Rel B d k) (id t : Int) : (B.end_ id t).2 = (if d.holds id t then 0 else 5) ∧ Rel (B.end_ id t).1 (if d.holds id t then d.end_ id else d) k := by
  unfold BK.end_
  rw [h.holds]
  cases d.holds id t with
  | false => exact ⟨rfl, h⟩
  | true =>
    refine ⟨rfl, h.leak, h.kl.del id, h.srt.filter _, fun i => ?_, h.km, h.ms, h.kt.del id, List.Pairwise.filter _ h.kT, h.tsrt.filter _, fun i => ?_, fun p hp => ?_, Nat.le_trans (List.length_filter_le _ _) h.len, h.mlen, fun p hp => h.wf p (List.mem_filter.1 hp).1⟩
    · show aget i (adel id B.ls) = aget i (d.L.filter fun p => p.1 != id)
      rw [aget_adel h.kl, aget_filter, h.get]
    · show aget i (adel id B.tm) = aget i (d.T.filter fun p => p.1 != id)
      rw [aget_adel h.kt, aget_filter, h.tget]
    · have hp' : p ∈ d.T.filter fun x => x.1 != id := hp
      obtain ⟨h1, h2⟩ := List.mem_filter.1 hp'
      show (aget p.1 (d.L.filter fun p => p.1 != id)).isSome
      rw [aget_filter, if_neg (by simpa using h2)]
      exact h.sub p h1

theorem Rel.mark (h : Rel B d k) (id t : Int) : (B.mark id t).2 = (if d.holds id t then 0 else 5) ∧ Rel (B.mark id t).1 (if d.holds id t then d.mark id else d) (k + 1) := by
  unfold BK.mark
  rw [h.holds]
  cases d.holds id t with
  | false => exact ⟨rfl, h.mono (Nat.le_succ _)⟩
  | true =>
    refine ⟨rfl, h.leak, h.kl, h.srt, h.get, h.km.put id true, fun i => ?_, h.kt, h.kT, h.tsrt, h.tget, h.sub, Nat.le_succ_of_le h.len, ?_, h.wf⟩
    · show (aget i (aput id true B.ms)).getD false = decide (i ∈ (d.M.filter fun x => x != id) ++ [id])
      rw [aget_aput']
      by_cases hi : i = id
      · simp [hi]
      · rw [if_neg hi, h.ms]
        simp [hi]
    · show ((d.M.filter fun x => x != id) ++ [id]).length ≤ k + 1
      rw [List.length_append]
      have := List.length_filter_le (fun x => x != id) d.M
      have := h.mlen
      simp only [List.length_cons, List.length_nil]
      omega

theorem Rel.forget (h : Rel B d k) (id : Int) : Rel (B.forget id) (d.forget id) k := by
  refine ⟨h.leak, h.kl, h.srt, h.get, h.km.del id, fun i => ?_, h.kt, h.kT, h.tsrt, h.tget, h.sub, h.len, Nat.le_trans (List.length_filter_le _ _) h.mlen, h.wf⟩
  show (aget i (adel id B.ms)).getD false = decide (i ∈ d.M.filter fun x => x != id)
  rw [aget_adel h.km]
  by_cases hi : i = id
  · simp [hi]
  · rw [if_neg hi, h.ms]
    simp [hi]

end Go.Proofs.YtbdnlaepeladbaaGreatDoor

namespace Go.Proofs.YtbdnlaepeladbaaGreatDoor
open Go.Eng

variable {B : BK} {d : RK} {k : Nat}

theorem aget_append {β : Type} (i : Int) : ∀ (xs ys : List (Int × β)), aget i (xs ++ ys) = (aget i xs).or (aget i ys)
  | [], ys => by simp [aget]
  | p :: xs, ys => by
    rw [List.cons_append, aget_cons, aget_cons, aget_append i xs ys]
    by_cases h : i = p.1
    · simp [h]
    · rw [if_neg h, if_neg h]

theorem aget_none_of {β : Type} {i : Int} {xs : List (Int × β)} (h : ∀ p ∈ xs, p.1 ≠ i) : aget i xs = none := by
  cases e : aget i xs with
  | none => rfl
  | some v => exact absurd rfl (h _ (aget_mem e))

theorem aget_ins {β : Type} {L : List (Int × β)} {id : Int} {x : β} {i : Nat} (hn : aget id L = none) (j : Int) : aget j (L.take i ++ (id, x) :: L.drop i) = if j = id then some x else aget j L := by
  have hsplit : L.take i ++ L.drop i = L := List.take_append_drop i L
  rw [aget_append, aget_cons]
  by_cases h : j = id
  · subst h
    rw [if_pos rfl, if_pos rfl]
    have : aget j (L.take i) = none := by
      have h2 := aget_append j (L.take i) (L.drop i)
      rw [hsplit, hn] at h2
      cases e : aget j (L.take i) with
      | none => rfl
      | some v => rw [e] at h2; simp at h2
    rw [this]; rfl
  · rw [if_neg h, if_neg h, ← aget_append, hsplit]

theorem none_of_aget {β : Type} {L : List (Int × β)} {id : Int} (h : aget id L = none) : ∀ p ∈ L, p.1 ≠ id := by
  intro p hp e
  induction L with
  | nil => cases hp
  | cons q L ih =>
    rw [aget_cons] at h
    split at h
    · cases h
    · rename_i hne
      rcases List.mem_cons.1 hp with rfl | hp
      · exact hne e.symm
      · exact ih h hp

theorem ins_sorted {L : List (Int × Le)} {id : Int} {x : Le} {i : Nat} (hs : L.Pairwise (fun a b => a.1 < b.1)) (hn : aget id L = none) (hI : InsL L id i) : (insL L id x i).Pairwise (fun a b => a.1 < b.1) := by
  obtain ⟨h1, h2, h3⟩ := hI
  have hne := none_of_aget hn
  have hd : ∀ q ∈ L.drop i, id < q.1 := by
    intro q hq
    obtain ⟨m, hm⟩ := List.getElem?_of_mem hq
    rw [List.getElem?_drop] at hm
    have hq1 := hne q (List.mem_of_mem_drop hq)
    have hil : i < L.length := by have := (List.getElem?_eq_some_iff.1 hm).1; omega
    have h4 := h3 L[i] (List.getElem?_eq_getElem hil)
    have h5 := hne L[i] (List.getElem_mem hil)
    obtain ⟨hml, hme⟩ := List.getElem?_eq_some_iff.1 hm
    rw [List.pairwise_iff_getElem] at hs
    rcases Nat.eq_zero_or_pos m with rfl | hpos
    · simp only [Nat.add_zero] at hme
      rw [← hme]; omega
    · have := hs i (i + m) hil hml (by omega)
      rw [hme] at this
      omega
  unfold insL
  rw [List.pairwise_append, List.pairwise_cons]
  refine ⟨hs.sublist (List.take_sublist ..), ⟨fun q hq => hd q hq, hs.sublist (List.drop_sublist ..)⟩, fun p hp q hq => ?_⟩
  rcases List.mem_cons.1 hq with rfl | hq
  · exact h2 p hp
  · have := h2 p hp
    have := hd q hq
    omega

theorem LtT.trans {p q r : Int × Int} (h1 : LtT p q) (h2 : LtT q r) : LtT p r := by
  unfold LtT at *
  omega

theorem insT_sorted {R : List (Int × Int)} {id a : Int} {i : Nat} (hs : R.Pairwise LtT) (hn : ∀ p ∈ R, p.1 ≠ id) (hI : InsAt R (id, a) i) : (R.take i ++ (id, a) :: R.drop i).Pairwise LtT := by
  obtain ⟨h1, h2, h3⟩ := hI
  have hd : ∀ q ∈ R.drop i, LtT (id, a) q := by
    intro q hq
    obtain ⟨m, hm⟩ := List.getElem?_of_mem hq
    rw [List.getElem?_drop] at hm
    have hil : i < R.length := by have := (List.getElem?_eq_some_iff.1 hm).1; omega
    have h4 := h3 R[i] (List.getElem?_eq_getElem hil)
    have h5 := hn R[i] (List.getElem_mem hil)
    have h6 : LtT (id, a) R[i] := by
      unfold LtT at *
      simp only at *
      omega
    obtain ⟨hml, hme⟩ := List.getElem?_eq_some_iff.1 hm
    rw [List.pairwise_iff_getElem] at hs
    rcases Nat.eq_zero_or_pos m with rfl | hpos
    · simp only [Nat.add_zero] at hme
      rw [← hme]; exact h6
    · have := hs i (i + m) hil hml (by omega)
      rw [hme] at this
      exact h6.trans this
  rw [List.pairwise_append, List.pairwise_cons]
  refine ⟨hs.sublist (List.take_sublist ..), ⟨fun q hq => hd q hq, hs.sublist (List.drop_sublist ..)⟩, fun p hp q hq => ?_⟩
  rcases List.mem_cons.1 hq with rfl | hq
  · exact h2 p hp
  · exact (h2 p hp).trans (hd q hq)

/-- What Begin gives, of a new lease. -/
theorem Rel.begin_new (h : Rel B d k) (hk : k ≤ 1000) {id t now : Int} (ht : 0 ≤ t ∧ t ≤ 7) (hn : aget id d.L = none) (hid : (Lit.int .u64 id).wf = true) {i : Nat} (hI : InsL d.L id i) :
    (B.begin id t now).2 = 0 ∧ (d.leak = 0 → Rel (B.begin id t now).1 { d with L := insL d.L id ⟨t, now, false⟩ i } (k + 1)) ∧
      (0 < d.leak → ∀ m, InsAt (d.T.filter fun x => x.1 != id) (id, addT (addT now d.leak) 0) m → Rel (B.begin id t now).1 { d with L := insL d.L id ⟨t, now, false⟩ i, T := insT d.T id (addT (addT now d.leak) 0) m } (k + 1)) := by
  have hls : B.ls.length ≤ 1000 := by rw [h.permL.length_eq]; exact Nat.le_trans h.len hk
  have htm : B.tm.length ≤ 1000 := by rw [h.permT.length_eq]; exact Nat.le_trans (Nat.le_trans h.tle h.len) hk
  have hlen : (insL d.L id ⟨t, now, false⟩ i).length = d.L.length + 1 := by
    unfold insL
    rw [List.length_append, List.length_cons, List.length_take, List.length_drop]
    have := hI.1
    omega
  have hget : ∀ j, aget j (aput id (⟨t, now, false⟩ : Le) B.ls) = aget j (insL d.L id ⟨t, now, false⟩ i) := fun j => by
    unfold insL
    rw [aget_aput', aget_ins hn, h.get]
  have hsrt := ins_sorted (x := ⟨t, now, false⟩) h.srt hn hI
  have hwf : ∀ p ∈ insL d.L id ⟨t, now, false⟩ i, (Lit.int .u64 p.1).wf = true := fun p hp => by
    unfold insL at hp
    rcases List.mem_append.1 hp with hp | hp
    · exact h.wf p (List.mem_of_mem_take hp)
    · rcases List.mem_cons.1 hp with rfl | hp
      · exact hid
      · exact h.wf p (List.mem_of_mem_drop hp)
  have hsome : ∀ j, (aget j d.L).isSome → (aget j (insL d.L id ⟨t, now, false⟩ i)).isSome := fun j hj => by
    unfold insL
    rw [aget_ins hn]
    split
    · rfl
    · exact hj
  have hB1 : ¬ (t < 0 ∨ 7 < t) := by omega
  have hB2 : ¬ ((aget id B.ls).isSome = true) := by rw [h.get, hn]; simp
  have hB3 : ¬ (1024 ≤ B.ls.length) := by omega
  unfold BK.begin
  rw [if_neg hB1, if_neg hB2, if_neg hB3]
  by_cases h0 : 0 < B.leak
  · rw [if_pos h0]
    have hB4 : ¬ (aget id B.tm = none ∧ 1024 ≤ B.tm.length) := by omega
    unfold BK.arm
    rw [if_neg hB4]
    refine ⟨rfl, fun hz => by rw [h.leak] at hz; omega, fun _ m hm => ?_⟩
    have hfn : ∀ p ∈ d.T.filter fun x => x.1 != id, p.1 ≠ id := fun p hp => by simpa using (List.mem_filter.1 hp).2
    have hT : ∀ j, aget j (insT d.T id (addT (addT now d.leak) 0) m) = if j = id then some (addT (addT now d.leak) 0) else aget j d.T := fun j => by
      unfold insT
      rw [aget_ins (aget_none_of hfn)]
      split
      · rfl
      · rename_i hj
        rw [aget_filter, if_neg hj]
    refine ⟨h.leak, h.kl.put _ _, hsrt, hget, h.km, h.ms, h.kt.put _ _, ?_, insT_sorted (h.tsrt.filter _) hfn hm, fun j => ?_, fun p hp => ?_, by rw [hlen]; exact Nat.succ_le_succ h.len, Nat.le_succ_of_le h.mlen, hwf⟩
    · show Keys1 ((d.T.filter fun x => x.1 != id).take m ++ (id, addT (addT now d.leak) 0) :: (d.T.filter fun x => x.1 != id).drop m)
      have hk1 : Keys1 (d.T.filter fun x => x.1 != id) := List.Pairwise.filter _ h.kT
      unfold Keys1 at hk1 ⊢
      rw [List.pairwise_append, List.pairwise_cons]
      have hsp : ((d.T.filter fun x => x.1 != id).take m ++ (d.T.filter fun x => x.1 != id).drop m).Pairwise fun a b => a.1 ≠ b.1 := by rw [List.take_append_drop]; exact hk1
      rw [List.pairwise_append] at hsp
      refine ⟨hsp.1, ⟨fun q hq e => hfn q (List.mem_of_mem_drop hq) e.symm, hsp.2.1⟩, fun p hp q hq => ?_⟩
      rcases List.mem_cons.1 hq with rfl | hq
      · exact hfn p (List.mem_of_mem_take hp)
      · exact hsp.2.2 p hp q hq
    · show aget j (aput id (addT (addT now B.leak) 0) B.tm) = _
      rw [aget_aput', hT, h.tget, h.leak]
    · have hp' : p ∈ insT d.T id (addT (addT now d.leak) 0) m := hp
      unfold insT at hp'
      show (aget p.1 (insL d.L id ⟨t, now, false⟩ i)).isSome
      rcases List.mem_append.1 hp' with hp' | hp'
      · exact hsome _ (h.sub p (List.mem_filter.1 (List.mem_of_mem_take hp')).1)
      · rcases List.mem_cons.1 hp' with rfl | hp'
        · unfold insL
          rw [aget_ins hn, if_pos rfl]; rfl
        · exact hsome _ (h.sub p (List.mem_filter.1 (List.mem_of_mem_drop hp')).1)
  · rw [if_neg h0]
    refine ⟨rfl, fun _ => ⟨h.leak, h.kl.put _ _, hsrt, hget, h.km, h.ms, h.kt, h.kT, h.tsrt, h.tget, fun p hp => hsome _ (h.sub p hp), by rw [hlen]; exact Nat.succ_le_succ h.len, Nat.le_succ_of_le h.mlen, hwf⟩, fun hz => by rw [h.leak] at hz; exact absurd hz h0⟩

theorem Rel.begin_range (h : Rel B d k) {id t now : Int} (ht : t < 0 ∨ 7 < t) : (B.begin id t now).2 = 2 ∧ Rel (B.begin id t now).1 d (k + 1) := by
  unfold BK.begin
  rw [if_pos ht]
  exact ⟨rfl, h.mono (Nat.le_succ _)⟩

theorem Rel.begin_twice (h : Rel B d k) {id t now : Int} (ht : 0 ≤ t ∧ t ≤ 7) (hs : (aget id d.L).isSome) : (B.begin id t now).2 = 10 ∧ Rel (B.begin id t now).1 d (k + 1) := by
  unfold BK.begin
  rw [if_neg (by omega), if_pos (by rw [h.get]; exact hs)]
  exact ⟨rfl, h.mono (Nat.le_succ _)⟩

theorem aget_flagL (D : List Int) (i : Int) : ∀ L : List (Int × Le), aget i (flagL D L) = if i ∈ D then (aget i L).map (fun x => { x with fl := true }) else aget i L
  | [] => by simp [flagL, aget]
  | p :: L => by
    have e : flagL D (p :: L) = (if p.1 ∈ D then (p.1, { p.2 with fl := true }) else p) :: flagL D L := rfl
    rw [e, aget_cons, aget_cons, aget_flagL D i L]
    by_cases hp : p.1 ∈ D
    · rw [if_pos hp]
      by_cases hi : i = p.1
      · rw [if_pos hi, if_pos hi, if_pos (by rw [hi]; exact hp)]; rfl
      · rw [if_neg hi, if_neg hi]
    · rw [if_neg hp]
      by_cases hi : i = p.1
      · rw [if_pos hi, if_pos hi, if_neg (by rw [hi]; exact hp)]
      · rw [if_neg hi, if_neg hi]

/-- What is due, on both sides. -/
theorem Rel.due (h : Rel B d k) {now : Int} {D : List Int} (hD : IsDue B.tm now D) {m : Nat} (hc : CutAt d.T now m) : D = (d.T.take m).map (·.1) := by
  obtain ⟨h1, h2, h3⟩ := hD
  obtain ⟨c1, c2, c3⟩ := hc
  have hg : ∀ p ∈ d.T, aget p.1 B.tm = some p.2 := fun p hp => by rw [h.tget]; exact Keys1.get h.kT hp
  have hk := h.kT
  have hs := h.tsrt
  refine List.Perm.eq_of_pairwise (le := KeyLe B.tm) (fun a b _ _ e1 e2 => ?_) h3 ?_ ?_
  · unfold KeyLe at e1 e2
    omega
  · refine List.pairwise_map.2 (List.Pairwise.imp_of_mem ?_ (hs.sublist (List.take_sublist ..)))
    intro p q hp hq hl
    unfold KeyLe
    rw [hg p (List.mem_of_mem_take hp), hg q (List.mem_of_mem_take hq)]
    unfold LtT at hl
    simp only [Option.getD_some]
    omega
  · refine (List.perm_ext_iff_of_nodup h1 (List.pairwise_map.2 (List.Pairwise.sublist (List.take_sublist ..) hk))).2 fun id => ?_
    rw [h2]
    constructor
    · rintro ⟨a, ha, hle⟩
      rw [h.tget] at ha
      have hm := aget_mem ha
      obtain ⟨j, hj⟩ := List.getElem?_of_mem hm
      obtain ⟨hjl, hje⟩ := List.getElem?_eq_some_iff.1 hj
      refine List.mem_map.2 ⟨(id, a), List.mem_iff_getElem?.2 ⟨j, ?_⟩, rfl⟩
      · rw [List.getElem?_take, if_pos ?_, hj]
        refine Classical.byContradiction fun hjm => ?_
        have hml : m < d.T.length := by omega
        have h4 := c3 d.T[m] (List.getElem?_eq_getElem hml)
        rw [List.pairwise_iff_getElem] at hs
        rcases Nat.eq_or_lt_of_le (show m ≤ j by omega) with e | hlt
        · subst e
          rw [hje] at h4
          simp only at h4
          omega
        · have h5 := hs m j hml hjl hlt
          rw [hje] at h5
          unfold LtT at h5
          simp only at h5
          omega
    · intro hm
      obtain ⟨p, hp, rfl⟩ := List.mem_map.1 hm
      exact ⟨p.2, hg p (List.mem_of_mem_take hp), c2 p hp⟩

theorem Rel.leaks (h : Rel B d k) {now : Int} {D : List Int} (hD : IsDue B.tm now D) {m : Nat} (hc : CutAt d.T now m) : Rel (B.leaks D) (d.leaks m) k := by
  have hDe := h.due hD hc
  have hin : ∀ id ∈ D, (aget id B.ls).isSome := fun id hid => by
    rw [hDe] at hid
    obtain ⟨p, hp, rfl⟩ := List.mem_map.1 hid
    rw [h.get]
    exact h.sub p (List.mem_of_mem_take hp)
  obtain ⟨f1, f2, f3⟩ := flagAll_get D h.kl hin
  obtain ⟨g1, g2⟩ := delAll_get D h.kt
  have hsp : d.T.take m ++ d.T.drop m = d.T := List.take_append_drop m d.T
  have hkk : Keys1 (d.T.take m ++ d.T.drop m) := by rw [hsp]; exact h.kT
  refine ⟨h.leak, f1, ?_, fun i => ?_, h.km, h.ms, g1, List.Pairwise.sublist (List.drop_sublist ..) h.kT, h.tsrt.sublist (List.drop_sublist ..), fun i => ?_, fun p hp => ?_, ?_, h.mlen, fun p hp => ?_⟩
  · show (flagL ((d.T.take m).map (·.1)) d.L).Pairwise _
    unfold flagL
    refine List.pairwise_map.2 (h.srt.imp fun {a b} hab => ?_)
    split <;> split <;> exact hab
  · show aget i (flagAll D B.ls) = aget i (flagL ((d.T.take m).map (·.1)) d.L)
    rw [f3, aget_flagL, ← hDe, h.get]
  · show aget i (delAll D B.tm) = aget i (d.T.drop m)
    rw [g2, h.tget, hDe]
    have ha := aget_append i (d.T.take m) (d.T.drop m)
    rw [hsp] at ha
    by_cases hi : i ∈ (d.T.take m).map (·.1)
    · rw [if_pos hi]
      obtain ⟨p, hp, rfl⟩ := List.mem_map.1 hi
      refine (aget_none_of fun q hq => ?_).symm
      unfold Keys1 at hkk
      rw [List.pairwise_append] at hkk
      exact fun e => hkk.2.2 p hp q hq e.symm
    · rw [if_neg hi, ha, aget_none_of (xs := d.T.take m) fun p hp e => hi (List.mem_map.2 ⟨p, hp, e⟩)]
      rfl
  · have hp' : p ∈ d.T.drop m := hp
    show (aget p.1 (flagL ((d.T.take m).map (·.1)) d.L)).isSome
    rw [aget_flagL]
    have := h.sub p (List.mem_of_mem_drop hp')
    split
    · simpa using this
    · exact this
  · show (flagL ((d.T.take m).map (·.1)) d.L).length ≤ k
    rw [flagL_length]; exact h.len
  · have hp' : p ∈ flagL ((d.T.take m).map (·.1)) d.L := hp
    unfold flagL at hp'
    obtain ⟨q, hq, rfl⟩ := List.mem_map.1 hp'
    have := h.wf q hq
    split <;> exact this

theorem Rel.start (lk : Int) : Rel ⟨lk, [], [], []⟩ ⟨lk, [], [], []⟩ 0 := by
  refine ⟨rfl, .nil, .nil, fun i => rfl, .nil, fun i => by simp [aget], .nil, .nil, .nil, fun i => rfl, ?_, by simp, by simp, ?_⟩ <;> intro p hp <;> cases hp

end Go.Proofs.YtbdnlaepeladbaaGreatDoor
