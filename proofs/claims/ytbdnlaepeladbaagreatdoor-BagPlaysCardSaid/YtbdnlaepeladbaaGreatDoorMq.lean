/- The keys of a map from numbers, appended to nil. Conditions: how the map lies in memory. -/
import Derived.Test.YtbdnlaepeladbaaGreatDoorEngD
import Derived.Test.YtbdnlaepeladbaaGreatDoorMo
namespace Go.Eng
open Go.RowKit Go.Maps Go.Proofs Go.Shelf Go.WideElems Go.ChangeShapes Go.WideShapes Go.MapKept

variable {P : Program} {w : World} {β : Type} {V : β → Value}

theorem ents_keys {k : IntKind} : ∀ {ms : List MapEntry} {es : List (Int × β)}, EntsR k V ms es → ms.map (·.key) = (es.map (·.1)).map (Value.int k)
  | [], [], _ => rfl
  | x :: l, p :: r, h => by
    obtain ⟨h1, h3⟩ := h
    rw [List.map_cons, List.map_cons, List.map_cons, ents_keys h3, h1.1]
  | [], p :: r, h => by cases h
  | x :: l, [], h => by cases h

/-- slices.AppendSeq(nil, maps.Keys(m)): the keys, in whatever order. -/
theorem appendSeq_map {e : SeqEnt} (he : SeqAt P e) {c mc : Nat} {es : List (Int × β)} (hc : w.cell? ⟨c, 0, none⟩ = some (.map (some mc))) (hm : MapSt e.q V w mc es) (hk : Keys1 es) (hw : ∀ p ∈ es, (Lit.int e.q p.1).wf = true) (hl : es.length ≤ 1000) :
    Calls P e.f #[.slice none 0 0, .func (.func e.g) #[] #[.pointer (some ⟨c, 0, none⟩)]] w fun en w' => ∃ v ss, en = .returned v ∧ ss.Perm (es.map (·.1)) ∧ w'.ownsRow w.heap.size e.kt 1 v ss.length (ss.map (Value.int e.q)) ∧ (v = .slice none 0 0 ↔ ss = []) ∧ Below w.heap.size w w' := by
  obtain ⟨ms, clock, h3, hents, hst⟩ := hm
  obtain ⟨ρ1, ρ2, L10, L11, e1, e2, e3⟩ := he.ex
  have hkt : P.underlying (ρ1.t 26) = some (.int e.q) := L10.t26
  have hlx : ms.length = es.length := ents_length hents
  let R : Value → Option (DataW Unit × List MemPlace) := fun _ => some (.lit (.bool true), [])
  have hkey : ∀ x ∈ ms, ∃ z, x.key = .int e.q z ∧ (Lit.int e.q z).wf = true := by
    intro x hx
    obtain ⟨p, hp, h1, _⟩ := ents_mem hents hx
    exact ⟨p.1, h1, hw p hp⟩
  have hrd : ∀ x ∈ ms, ∃ z, x.key = .int e.q z ∧ rd P (ρ1.t 26) R x = some (.int e.q z, .lit (.bool true)) := by
    intro x hx
    obtain ⟨z, hz, hz2⟩ := hkey x hx
    refine ⟨z, hz, ?_⟩
    simp only [rd, hz, keyOf_int_mk hkt hz2, R, Option.map_some, Option.bind_some]
  have hfit : Fit P (ρ1.t 26) R ms.toArray clock := by
    refine ⟨by simp [maxLen]; omega, ⟨?_, ?_, ?_⟩, ?_⟩
    · intro x hx
      exact hst.2 x (by simpa using hx)
    · exact List.pairwise_map.2 hst.1
    · simp only
      rw [ents_keys hents]
      refine List.pairwise_map.2 (List.pairwise_map.2 ?_)
      unfold Keys1 at hk
      exact hk.imp fun hne h => hne (by simpa using h)
    · intro x hx
      obtain ⟨z, hz, hr⟩ := hrd x (by simpa using hx)
      exact ⟨_, hr⟩
  let D0 : DataW Unit := .map ((ms.map (rg P (ρ1.t 26) R)).foldr DataW.insert [])
  have hown : w.ownsMap P (ρ1.t 26) R mc es.length D0 := ⟨ms.toArray, clock, h3, hfit, by simp [hlx], rfl⟩
  have hsz : Maps.size D0 = es.length := by
    have := (sorted_perm (ms.map (rg P (ρ1.t 26) R))).length_eq
    simp only [Maps.size, D0, this, List.length_map, hlx]
  have hik : (intKeys D0).Perm (es.map (·.1)) := by
    have hp := (sorted_perm (ms.map (rg P (ρ1.t 26) R))).map (fun p => intOf p.1)
    refine hp.trans (List.Perm.of_eq ?_)
    have hmap : ∀ (l : List MapEntry), (∀ x ∈ l, x ∈ ms) → ∀ k2, l.map (·.key) = k2.map (Value.int e.q) → (l.map (rg P (ρ1.t 26) R)).map (fun p => intOf p.1) = k2 := by
      intro l
      induction l with
      | nil => intro _ k2 hk2; cases k2 with
        | nil => rfl
        | cons => simp at hk2
      | cons x l ih =>
        intro hsub k2 hk2
        cases k2 with
        | nil => simp at hk2
        | cons z k2 =>
          simp only [List.map_cons, List.cons.injEq] at hk2
          obtain ⟨z', hz', hr⟩ := hrd x (hsub x (List.mem_cons_self ..))
          have : z' = z := by rw [hz'] at hk2; simpa using hk2.1
          have ih' := ih (fun y hy => hsub y (List.mem_cons_of_mem _ hy)) k2 hk2.2
          rw [List.map_cons, List.map_cons, ih']
          congr 1
          simp only [rg, hr, Option.getD_some, intOf, this]
    exact hmap ms (fun _ h => h) _ (ents_keys hents)
  have hcl : c < w.heap.size := World.block_lt_of_cell? _ _ hc
  have hgives := AnyQ.keys_gives L10 Fence.wide 4 trivial rfl (by decide) c mc es.length D0 w hcl hc hown
  have hcall := AnyQ.appendSeq_in L11 Fence.wide 5 trivial rfl (by decide) (ρ1.f 10) #[.pointer (some ⟨c, 0, none⟩)] trivial (L10.f10.enters rfl)
    (fun ss => ss.Perm (intKeys D0)) (Maps.size D0) (by rw [hsz]; simp [maxLen]; omega) (by rw [hsz]; omega) w hgives
  rw [e1, e2, e3] at hcall
  refine (callsIn_wide.1 hcall).mono ?_
  rintro en w' ⟨v, ss, rfl, hS, hrow, hnil, hb⟩
  exact ⟨v, ss, rfl, hS.trans hik, hrow, hnil, hb⟩

end Go.Eng
