/- A machine that runs closed code, part 3 of 4: operations whose order is open, calls. Conditions: none. -/
import Derived.Test.YthpfbljbifcaoaaGreatDoorEngB
import Derived.Scope
namespace Go.Eng
open Go.RowKit

variable {P : Program} {K : Fix} {E F : Env} {S S' : St} {X : List (List Value)} {w w' : World} {a b v : AVal} {x y : Value} {t s : TypeId} {l r : List AVal} {xs : List Value} {i j n off f : Nat}

theorem VRs.getR : ∀ {l : List AVal} {xs : List Value} {i : Nat} {x : Value}, VRs E l xs → xs[i]? = some x → ∃ a, l[i]? = some a ∧ VR E a x
  | [], xs, i, x, r, h => by simp only [VRs] at r; subst r; simp at h
  | b :: l, xs, i, x, r, h => by
    simp only [VRs] at r; obtain ⟨y, s, h1, h2, h3⟩ := r
    subst h3
    cases i with
    | zero => simp at h; subst h; exact ⟨b, by simp, h1⟩
    | succ i => simp at h; simpa using VRs.getR h2 h

theorem VRs.mk : ∀ {l : List AVal} {xs : List Value}, l.length = xs.length → (∀ (i : Nat) (a : AVal) (x : Value), l[i]? = some a → xs[i]? = some x → VR E a x) → VRs E l xs
  | [], xs, h, _ => by cases xs <;> simp_all [VRs]
  | a :: l, [], h, _ => by simp at h
  | a :: l, x :: xs, h, k => VRs.cons (k 0 a x (by simp) (by simp)) (VRs.mk (by simpa using h) fun i b y h1 h2 => k (i + 1) b y (by simpa using h1) (by simpa using h2))

/-- What a register holds in the midst of a region. -/
def curX (ops : List Oper) (listed : Array Bool) (XE : List Value) (t : Nat) (r : Value) : Value :=
  match findDst ops t with
  | some j => if listed.getD j false = true then XE.getD j undef else r
  | none => r

theorem findDst_some {ops : List Oper} {t j : Nat} (h : findDst ops t = some j) : ∃ o, ops[j]? = some o ∧ o.dst = some t := by
  unfold findDst at h
  obtain ⟨hlt, h1, _⟩ := List.findIdx?_eq_some_iff_getElem.1 h
  exact ⟨ops[j], by simp [hlt], by simpa using h1⟩

theorem getD_set_ne {listed : Array Bool} {i j : Nat} {b : Bool} (h : i ≠ j) : (listed.setIfInBounds i true).getD j b = listed.getD j b := by
  simp [Array.getD_eq_getD_getElem?, Array.getElem?_setIfInBounds_ne h]
theorem getD_set_self {listed : Array Bool} {i : Nat} {b : Bool} (h : i < listed.size) : (listed.setIfInBounds i true).getD i b = true := by
  simp [Array.getD_eq_getD_getElem?, h]

theorem cur_put {ops : List Oper} {listed : Array Bool} {XR XE XE' : List Value} {ac : Act} {o : Oper} (hcur : ∀ t : Nat, ac.tmps[t]? = (XR[t]?).map (curX ops listed XE t))
    (hi : ops[i]? = some o) (hlt : i < listed.size) (hdst : ∀ t, o.dst = some t → findDst ops t = some i) (hy : XE'.getD i undef = y) (hag : ∀ j, listed.getD j false = true → XE'.getD j undef = XE.getD j undef) :
    ∀ t : Nat, (ac.put o.dst y).tmps[t]? = (XR[t]?).map (curX ops (listed.setIfInBounds i true) XE' t) := by
  intro t
  have huniq : findDst ops t = some i → o.dst = some t := by
    intro h
    obtain ⟨o', h1, h2⟩ := findDst_some h
    rw [hi] at h1; obtain rfl := Option.some.inj h1; exact h2
  have hsame : o.dst ≠ some t → ∀ r, curX ops (listed.setIfInBounds i true) XE' t r = curX ops listed XE t r := by
    intro hne r
    unfold curX
    split
    · rename_i j hj
      have hji : i ≠ j := by rintro rfl; exact hne (huniq hj)
      rw [getD_set_ne hji]
      split
      · rename_i hl; exact hag j hl
      · rfl
    · rfl
  by_cases hd : o.dst = some t
  · have hf := hdst t hd
    rw [hd]
    simp only [Act.put, Array.getElem?_setIfInBounds, if_true]
    have hc := hcur t
    cases hx : XR[t]? with
    | none =>
      rw [hx] at hc
      have hsz : ac.tmps.size ≤ t := by simpa using hc
      simp; omega
    | some r =>
      rw [hx] at hc
      have hsz : t < ac.tmps.size := by
        simp only [Option.map_some] at hc
        exact (Array.getElem?_eq_some_iff.1 hc).1
      simp only [hsz, if_true, Option.map_some, curX, hf, getD_set_self hlt, hy]
  · have h2 : (ac.put o.dst y).tmps[t]? = ac.tmps[t]? := by
      cases ho : o.dst with
      | none => rfl
      | some d =>
        simp only [Act.put]
        rw [Array.getElem?_setIfInBounds_ne]
        rintro rfl; exact hd ho
    rw [h2, hcur t]
    cases XR[t]? with
    | none => rfl
    | some r => simp only [Option.map_some, hsame hd r]

theorem eval_tmp {ac : Act} {t : Nat} (h : ac.tmps[t]? = some x) : ac.eval (.tmp t) = x := by
  simp [Act.eval, Array.getD_eq_getD_getElem?, h]

theorem evList_get {ev : List (Option AVal)} (h : evAt ev j = some v) : (evList ev)[j]? = some v := by
  unfold evAt at h
  unfold evList
  rw [List.getElem?_map]
  cases he : ev[j]? with
  | none => rw [he] at h; cases h
  | some o => rw [he] at h; simp only [Option.join_some] at h; subst h; rfl

theorem getD_of {XE : List Value} (h : XE[j]? = some x) : XE.getD j undef = x := by simp [List.getD, h]

/-- The operands of an operation whose turn may have come. -/
theorem opD_sound {ops : List Oper} {Bs : List (List Nat)} {R : List AVal} {ev : List (Option AVal)} {listed : Array Bool} {XR XE : List Value} {ac : Act} (rR : VRs E R XR) (rE : VRs E (evList ev) XE)
    (hcur : ∀ t : Nat, ac.tmps[t]? = (XR[t]?).map (curX ops listed XE t)) (hun : listed.getD i false = false) (hB : ∀ j ∈ Bs.getD i [], listed.getD j false = true)
    (hcl : ∀ j, listed.getD j false = true → ∀ k ∈ Bs.getD j [], listed.getD k false = true) : EvR E (opD ops Bs R ev i) ac.eval := by
  intro o v ho
  cases o with
  | tmp t =>
    simp only [opD] at ho
    split at ho
    · rename_i r hr hf
      simp only [Option.some.injEq] at ho; subst ho
      obtain ⟨x, h1, h2⟩ := rR.get hr
      have := hcur t
      rw [h1] at this
      simp only [Option.map_some, curX, hf] at this
      rw [eval_tmp this]; exact h2
    · rename_i r jj hr hf
      obtain ⟨x, h1, h2⟩ := rR.get hr
      have hc := hcur t
      rw [h1] at hc
      simp only [Option.map_some, curX, hf] at hc
      split at ho
      · rename_i hcon
        have hl := hB jj (by simpa using hcon)
        rw [hl] at hc
        simp only [if_true] at hc
        obtain ⟨z, g1, g2⟩ := rE.get (evList_get ho)
        rw [getD_of g1] at hc
        rw [eval_tmp hc]; exact g2
      · split at ho
        · rename_i hcon
          simp only [Option.some.injEq] at ho; subst ho
          have hl : listed.getD jj false = false := by
            simp only [Bool.or_eq_true, beq_iff_eq] at hcon
            rcases hcon with rfl | hcon
            · exact hun
            · cases hh : listed.getD jj false with
              | false => rfl
              | true =>
                have := hcl jj hh i (by simpa using hcon)
                rw [hun] at this; cases this
          rw [hl] at hc
          simp only [Bool.false_eq_true, if_false] at hc
          rw [eval_tmp hc]; exact h2
        · simp at ho
    · simp at ho
  | const c => simp only [opD, opR, Option.some.injEq] at ho; subst ho; simp only [VR, Act.eval]
  | global g => simp only [opD, opR, Option.some.injEq] at ho; subst ho; simp only [VR, Act.eval]
  | func f => simp only [opD, opR, Option.some.injEq] at ho; subst ho; simp only [VR, Act.eval]

theorem gAt_sound {ops : Array Oper} {Bs : List (List Nat)} {R : List AVal} {ev : List (Option AVal)} {listed : Array Bool} {XR XE : List Value} {ac : Act} {o : Oper} {bb : Bool} (rR : VRs E R XR) (rE : VRs E (evList ev) XE)
    (hcur : ∀ t : Nat, ac.tmps[t]? = (XR[t]?).map (curX ops.toList listed XE t)) (hB : ∀ j ∈ Bs.getD i [], listed.getD j false = true)
    (hdst : ∀ g o t, ops.toList[g]? = some o → o.dst = some t → findDst ops.toList t = some g) (hg : gAt ops.toList Bs R ev i o = some bb) : Region.wanted o (yielded ops ac.tmps) = bb := by
  unfold gAt at hg
  unfold Region.wanted
  split at hg
  · rename_i h; simp only [Option.some.injEq] at hg; subst hg; rw [h]
  · rename_i g want h
    rw [h]
    split at hg
    · rename_i d hd
      split at hg
      · rename_i hcon
        simp only [Bool.and_eq_true, Option.isSome_iff_exists] at hcon
        obtain ⟨hc1, r, hr⟩ := hcon
        simp only [Option.map_eq_some_iff] at hg
        obtain ⟨v, hv, rfl⟩ := hg
        obtain ⟨z, g1, g2⟩ := rE.get (evList_get hv)
        obtain ⟨x, h1, _⟩ := rR.get hr
        simp only [Option.bind_eq_some_iff] at hd
        obtain ⟨og, ho1, ho2⟩ := hd
        have hf := hdst g og d ho1 ho2
        have hc := hcur d
        rw [h1] at hc
        have hl := hB g (by simpa using hc1)
        simp only [Option.map_some, curX, hf, hl, if_true, getD_of g1] at hc
        have ho1' : ops[g]? = some og := by rw [← Array.getElem?_toList]; exact ho1
        simp only [yielded, ho1', Option.bind_some, ho2, hc]
        exact isB_sound g2
      · simp at hg
    · simp at hg

/-- A step of those that are known ahead. -/
theorem satStep_sound {ops : List Oper} {Bs : List (List Nat)} {R : List AVal} {ev : List (Option AVal)} {XR XE : List Value} (h : Ok K E S X w) (rR : VRs E R XR) (rE : VRs E (evList ev) XE) :
    ∃ XE', VRs E (evList (satStep P K ops Bs R S ev i)) XE' ∧ (satStep P K ops Bs R S ev i).length = ev.length ∧
      ∀ j, (evAt ev j).isSome → XE'.getD j undef = XE.getD j undef ∧ evAt (satStep P K ops Bs R S ev i) j = evAt ev j := by
  unfold satStep
  split
  · rename_i o hev ho
    split
    · split
      · rename_i v hq
        -- a value that it stands for
        have hx : ∃ x, VR E v x := by
          unfold quietVal at hq
          split at hq
          · simp only [Option.some.injEq] at hq; subst hq; exact ⟨undef, by simp only [uv, VR]⟩
          · split at hq
            · simp at hq
            · have hA : EvR E (opD ops Bs R ev i) (fun u => match u with
                  | .tmp t => (match findDst ops t with
                    | none => XR.getD t undef
                    | some j => if (Bs.getD i []).contains j then XE.getD j undef else XR.getD t undef)
                  | .const v => v
                  | .global g => .pointer (some ⟨g, 0, none⟩)
                  | .func f => .func (.func f) #[] #[]) := by
                intro u z hu
                cases u with
                | tmp t =>
                  simp only [opD] at hu
                  split at hu
                  · rename_i r hr hf
                    simp only [Option.some.injEq] at hu; subst hu
                    obtain ⟨x, h1, h2⟩ := rR.get hr
                    simp only [hf, getD_of h1]; exact h2
                  · rename_i r jj hr hf
                    split at hu
                    · rename_i hcon
                      obtain ⟨x, h1, h2⟩ := rE.get (evList_get hu)
                      simp only [hf, hcon, if_true, getD_of h1]; exact h2
                    · rename_i hcon
                      split at hu
                      · simp only [Option.some.injEq] at hu; subst hu
                        obtain ⟨x, h1, h2⟩ := rR.get hr
                        simp only [hf, hcon, getD_of h1]; exact h2
                      · simp at hu
                  · simp at hu
                | const c => simp only [opD, opR, Option.some.injEq] at hu; subst hu; simp only [VR]
                | global g => simp only [opD, opR, Option.some.injEq] at hu; subst hu; simp only [VR]
                | func f => simp only [opD, opR, Option.some.injEq] at hu; subst hu; simp only [VR]
              obtain ⟨y, _, hy⟩ := aread_sound h hA hq
              exact ⟨y, hy⟩
          · simp at hq
        obtain ⟨x, hx⟩ := hx
        refine ⟨XE.set i x, ?_, by simp, fun j hj => ?_⟩
        · have : evList (ev.set i (some v)) = (evList ev).set i v := by simp [evList, List.map_set]
          rw [this]; exact rE.set hx
        · have hne : i ≠ j := by rintro rfl; rw [hev] at hj; cases hj
          refine ⟨by simp [List.getD, List.getElem?_set_ne hne], ?_⟩
          unfold evAt; rw [List.getElem?_set_ne hne]
      · exact ⟨XE, rE, rfl, fun j _ => ⟨rfl, rfl⟩⟩
    · exact ⟨XE, rE, rfl, fun j _ => ⟨rfl, rfl⟩⟩
  · exact ⟨XE, rE, rfl, fun j _ => ⟨rfl, rfl⟩⟩

theorem saturate_sound {ops : List Oper} {Bs : List (List Nat)} {R : List AVal} {XR : List Value} (h : Ok K E S X w) (rR : VRs E R XR) : ∀ (is : List Nat) {ev : List (Option AVal)} {XE : List Value}, VRs E (evList ev) XE →
    ∃ XE', VRs E (evList (is.foldl (satStep P K ops Bs R S) ev)) XE' ∧ (is.foldl (satStep P K ops Bs R S) ev).length = ev.length ∧
      ∀ j, (evAt ev j).isSome → XE'.getD j undef = XE.getD j undef ∧ evAt (is.foldl (satStep P K ops Bs R S) ev) j = evAt ev j
  | [], ev, XE, rE => ⟨XE, rE, rfl, fun j _ => ⟨rfl, rfl⟩⟩
  | i :: is, ev, XE, rE => by
    obtain ⟨XE1, h1, h2, h3⟩ := satStep_sound (P := P) (ops := ops) (Bs := Bs) (i := i) h rR rE
    obtain ⟨XE2, g1, g2, g3⟩ := saturate_sound (ops := ops) (Bs := Bs) h rR is h1
    refine ⟨XE2, g1, g2.trans h2, fun j hj => ?_⟩
    obtain ⟨e1, e2⟩ := h3 j hj
    obtain ⟨f1, f2⟩ := g3 j (by rw [e2]; exact hj)
    exact ⟨f1.trans e1, f2.trans e2⟩

end Go.Eng

namespace Go.Eng
open Go.RowKit

variable {P : Program} {K : Fix} {E F : Env} {S S' : St} {X : List (List Value)} {w w' : World} {a b v : AVal} {x y : Value} {t s : TypeId} {l r : List AVal} {xs : List Value} {i j n off f : Nat}

theorem mem_ready {ops : Array Oper} {listed : Array Bool} (h : i ∈ Region.ready .any ops listed) :
    ∃ o, ops.toList[i]? = some o ∧ i < ops.size ∧ listed.getD i true = false ∧ ∀ e ∈ o.after.toList, Region.binds .any e = true → listed.getD e.on false = true := by
  unfold Region.ready at h
  simp only [List.mem_filter, List.mem_range, Bool.and_eq_true, Bool.not_eq_true'] at h
  obtain ⟨h1, h2, h3⟩ := h
  refine ⟨ops[i], by simp [h1], h1, h2, fun e he hb => ?_⟩
  simp only [Array.getElem?_eq_getElem h1, Option.map_some, Option.getD_some, Array.all_eq_true'] at h3
  have := h3 e (by simpa using he)
  simpa [hb] using this

structure DrawOk (ops : List Oper) (Bs : List (List Nat)) : Prop where
  edge : ∀ (i : Nat) o, ops[i]? = some o → ∀ e ∈ o.after.toList, Region.binds .any e = true → e.on < i
  pred : ∀ (i : Nat) o, ops[i]? = some o → ∀ j ∈ Bs.getD i [], ∃ e ∈ o.after.toList, Region.binds .any e = true ∧ (e.on = j ∨ j ∈ Bs.getD e.on [])
  dst : ∀ (i : Nat) o t, ops[i]? = some o → o.dst = some t → findDst ops t = some i

theorem drawChk_sound {ops : List Oper} {Bs : List (List Nat)} (h : drawChk ops Bs = true) : DrawOk ops Bs := by
  unfold drawChk at h
  rw [List.all_eq_true] at h
  have key : ∀ (i : Nat) o, ops[i]? = some o → _ := fun i o ho => h i (List.mem_range.2 (List.getElem?_eq_some_iff.1 ho).1)
  refine ⟨fun i o ho e he => ?_, fun i o ho j hj => ?_, fun i o t ho ht => ?_⟩
  · have := key i o ho
    simp only [ho, Bool.and_eq_true, List.all_eq_true, Bool.or_eq_true, Bool.not_eq_true', decide_eq_true_eq] at this
    intro hb
    rcases this.1.1 e he with g | g
    · rw [hb] at g; cases g
    · exact g
  · have := key i o ho
    simp only [ho, Bool.and_eq_true, List.all_eq_true, List.any_eq_true, Bool.or_eq_true, beq_iff_eq, List.contains_iff_mem] at this
    exact this.1.2 j hj
  · have := key i o ho
    simp only [ho, ht, Bool.and_eq_true, beq_iff_eq] at this
    exact this.2

/-- The midst of a region. -/
structure Inv (ops : List Oper) (Bs : List (List Nat)) (ex : List Nat) (ev : List (Option AVal)) (R : List AVal) (XR XE : List Value) (listed : Array Bool) (ac : Act) (E : Env) : Prop where
  size : listed.size = ops.length
  evl : ev.length = ops.length
  dom : ∀ i, listed.getD i false = true → (evAt ev i).isSome
  exd : ∀ i ∈ ex, listed.getD i false = true
  closed : ∀ j, listed.getD j false = true → ∀ k ∈ Bs.getD j [], listed.getD k false = true
  rR : VRs E R XR
  rE : VRs E (evList ev) XE
  cur : ∀ t : Nat, ac.tmps[t]? = (XR[t]?).map (curX ops listed XE t)

theorem Inv.listed_lt {ops Bs ex ev R XR XE listed ac} (h : Inv ops Bs ex ev R XR XE listed ac E) (hl : listed.getD i false = true) : i < ops.length := by
  rw [← h.size]
  rcases Nat.lt_or_ge i listed.size with g | g
  · exact g
  · simp [Array.getD_eq_getD_getElem?, Array.getElem?_eq_none g] at hl

/-- One more operation is behind: what it gave stands in the place. -/
theorem Inv.next {ops : List Oper} {Bs : List (List Nat)} {ex ex' : List Nat} {ev ev' : List (Option AVal)} {R R' : List AVal} {XR XE XE' : List Value} {listed : Array Bool} {ac : Act} {o : Oper} (h : Inv ops Bs ex ev R XR XE listed ac E) (hD : DrawOk ops Bs)
    (ho : ops[i]? = some o) (hB : ∀ j ∈ Bs.getD i [], listed.getD j false = true) (hl : ev'.length = ev.length) (hex : ∀ k ∈ ex', k = i ∨ listed.getD k false = true) (hv : (evAt ev' i).isSome) (hmono : ∀ j, (evAt ev j).isSome → (evAt ev' j).isSome)
    (rR : VRs F R' XR) (rE : VRs F (evList ev') XE') (hy : XE'.getD i undef = y) (hag : ∀ j, listed.getD j false = true → XE'.getD j undef = XE.getD j undef) :
    Inv ops Bs ex' ev' R' XR XE' (listed.setIfInBounds i true) (ac.put o.dst y) F := by
  have hlt : i < listed.size := by rw [h.size]; exact (List.getElem?_eq_some_iff.1 ho).1
  have hset : ∀ j, (listed.setIfInBounds i true).getD j false = true → j = i ∨ listed.getD j false = true := by
    intro j hj
    by_cases e : i = j
    · exact .inl e.symm
    · rw [getD_set_ne e] at hj; exact .inr hj
  have hset' : ∀ j, listed.getD j false = true → (listed.setIfInBounds i true).getD j false = true := by
    intro j hj
    by_cases e : i = j
    · subst e; exact getD_set_self hlt
    · rw [getD_set_ne e]; exact hj
  refine ⟨by simpa using h.size, hl.trans h.evl, fun j hj => ?_, fun k hk => ?_, fun j hj k hk => ?_, rR, rE, ?_⟩
  · rcases hset j hj with rfl | hj
    · exact hv
    · exact hmono j (h.dom j hj)
  · rcases hex k hk with rfl | hk
    · exact getD_set_self hlt
    · exact hset' k hk
  · rcases hset j hj with rfl | hj
    · exact hset' k (hB k hk)
    · exact hset' k (h.closed j hj k hk)
  · exact cur_put h.cur ho hlt (fun t ht => hD.dst i o t ho ht) hy hag

theorem finR_sound {ops : List Oper} {R : List AVal} {ev : List (Option AVal)} {XR XE : List Value} {listed : Array Bool} {ac : Act} (rR : VRs E R XR) (rE : VRs E (evList ev) XE) (hcur : ∀ t : Nat, ac.tmps[t]? = (XR[t]?).map (curX ops listed XE t))
    (hall : ∀ i, i < ops.length → listed.getD i false = true) (hev : ∀ i, i < ops.length → (evAt ev i).isSome) : VRs E (finR ops R ev) ac.tmps.toList := by
  have hlen : R.length = ac.tmps.toList.length := by
    rw [rR.length]
    rcases Nat.lt_trichotomy XR.length ac.tmps.toList.length with g | g | g
    · have := hcur XR.length
      rw [List.getElem?_eq_none (Nat.le_refl _)] at this
      simp at this; simp at g; omega
    · exact g
    · have := hcur ac.tmps.toList.length
      have h2 : XR[ac.tmps.toList.length]? = some XR[ac.tmps.toList.length] := by simp
      rw [h2] at this
      simp at this
  refine VRs.mk (by simp [finR, hlen]) fun t q x hq hx => ?_
  simp only [finR, List.getElem?_mapIdx, Option.map_eq_some_iff] at hq
  obtain ⟨r, hr, rfl⟩ := hq
  rw [Array.getElem?_toList, hcur t] at hx
  obtain ⟨z, h1, h2⟩ := rR.get hr
  rw [h1] at hx
  simp only [Option.map_some, Option.some.injEq, curX] at hx
  cases hf : findDst ops t with
  | none => simp only [hf] at hx ⊢; subst hx; exact h2
  | some j =>
    obtain ⟨o, ho, _⟩ := findDst_some hf
    have hj := (List.getElem?_eq_some_iff.1 ho).1
    simp only [hf, hall j hj, if_true] at hx
    obtain ⟨u, hu⟩ := Option.isSome_iff_exists.1 (hev j hj)
    obtain ⟨z2, g1, g2⟩ := rE.get (evList_get hu)
    rw [getD_of g1] at hx; subst hx
    simp only [hu, Option.getD_some]; exact g2

theorem all_listed {ops : Array Oper} {Bs : List (List Nat)} {listed : Array Bool} (hD : DrawOk ops.toList Bs) (hs : listed.size = ops.size) (hr : Region.ready .any ops listed = []) : ∀ i, i < ops.size → listed.getD i false = true := by
  intro i
  induction i using Nat.strongRecOn with
  | _ i ih =>
    intro hi
    cases hl : listed.getD i false with
    | true => rfl
    | false =>
      exfalso
      have : i ∈ Region.ready .any ops listed := by
        unfold Region.ready
        simp only [List.mem_filter, List.mem_range, Bool.and_eq_true, Bool.not_eq_true']
        refine ⟨hi, ?_, ?_⟩
        · have : i < listed.size := by omega
          simpa [Array.getD_eq_getD_getElem?, this] using hl
        · have ho : ops.toList[i]? = some ops[i] := by simp [hi]
          simp only [Array.getElem?_eq_getElem hi, Option.map_some, Option.getD_some, Array.all_eq_true']
          intro e he
          cases hb : Region.binds .any e with
          | false => simp
          | true =>
            have e1 := hD.edge i ops[i] ho e (by simpa using he) hb
            rw [ih e.on e1 (by omega)]; simp
      rw [hr] at this; cases this

theorem count_set {listed : Array Bool} (hlt : i < listed.size) (hl : listed.getD i false = false) : (listed.setIfInBounds i true).toList.count false + 1 = listed.toList.count false := by
  have hi : i < listed.toList.length := by simpa using hlt
  have hg : listed.toList[i] = false := by simpa [Array.getD_eq_getD_getElem?, hlt] using hl
  simp only [Array.toList_setIfInBounds]
  rw [List.count_set hi, hg]
  have : 0 < listed.toList.count false := List.count_pos_iff.2 (by rw [← hg]; exact List.getElem_mem hi)
  simp only [beq_self_eq_true, if_true, Bool.true_beq, Bool.false_eq_true, if_false]
  omega

end Go.Eng

namespace Go.Eng
open Go.RowKit

variable {P : Program} {K : Fix} {E F : Env} {S S' : St} {X : List (List Value)} {w w' : World} {a b v : AVal} {x y : Value} {t s : TypeId} {l r : List AVal} {xs : List Value} {i j n off f : Nat}

theorem SR.two {p q : List AVal} {A B : List Value} (h : SR E [p, q] [A, B]) : VRs E p A ∧ VRs E q B := by
  simp only [SR] at h
  obtain ⟨x, r, h1, ⟨x2, r2, h2, h3, h4⟩, h5⟩ := h
  simp only [List.cons.injEq] at h5
  obtain ⟨rfl, rfl⟩ := h5
  simp only [List.cons.injEq] at h4
  obtain ⟨rfl, _⟩ := h4
  exact ⟨h1, h2⟩

theorem evBack_sound {ev : List (Option AVal)} {XE : List Value} (rE : VRs E (evList ev) XE) (hl : VRs F l XE) : VRs F (evList (evBack ev l)) XE ∧ (evBack ev l).length = ev.length ∧ (∀ j, (evAt ev j).isSome → (evAt (evBack ev l) j).isSome) := by
  induction ev generalizing l XE with
  | nil => 
    simp only [evList, List.map_nil, VRs] at rE; subst rE
    simp only [evBack, List.zipWith_nil_left, evList, List.map_nil, VRs, List.length_nil, evAt]
    simp
  | cons o ev ih =>
    simp only [evList, List.map_cons, VRs] at rE
    obtain ⟨x, r, h1, h2, rfl⟩ := rE
    cases l with
    | nil => simp only [VRs] at hl; cases hl
    | cons q l =>
      simp only [VRs, List.cons.injEq] at hl
      obtain ⟨x', r', g1, g2, rfl, rfl⟩ := hl
      obtain ⟨i1, i2, i3⟩ := ih (l := l) (XE := r) h2 g2
      refine ⟨?_, by simp [evBack] at i2 ⊢; omega, fun j hj => ?_⟩
      · simp only [evBack, List.zipWith_cons_cons, evList, List.map_cons]
        refine VRs.cons ?_ i1
        cases o with
        | none => simp only [Option.map_none, Option.getD_none] at h1 ⊢; simp only [uv, VR] at h1 ⊢; exact h1
        | some u => simpa using g1
      · cases j with
        | zero =>
          simp only [evAt, evBack, List.zipWith_cons_cons, List.getElem?_cons_zero, Option.join_some] at hj ⊢
          cases o <;> simp_all
        | succ j =>
          simp only [evAt, evBack, List.zipWith_cons_cons, List.getElem?_cons_succ] at hj ⊢
          exact i3 j hj

theorem evAt_set {ev : List (Option AVal)} (h : i < ev.length) : evAt (ev.set i (some v)) i = some v := by
  simp [evAt, h]
theorem evAt_set_ne {ev : List (Option AVal)} {u : Option AVal} (h : i ≠ j) : evAt (ev.set i u) j = evAt ev j := by
  simp [evAt, List.getElem?_set_ne h]

theorem drawGo_sound {ext call : CallF} (he : ExtOk P K ext) (hcl : CallOk P K call) {ops : Array Oper} {Bs : List (List Nat)} {Q : Exit → Act → World → Prop} (hD : DrawOk ops.toList Bs) :
    ∀ (k m : Nat) {ex : List Nat} {ev : List (Option AVal)} {R : List AVal} {S : St} {listed : Array Bool} {XR XE : List Value} {ac : Act} {w : World} {E : Env} {outs : List (List AVal × St)},
    listed.toList.count false ≤ k → Inv ops.toList Bs ex ev R XR XE listed ac E → Ok K E S X w → drawGo P K ext call ops.toList Bs m ex ev R S = some outs →
    (∀ R' S' E' w' ac', (R', S') ∈ outs → VRs E' R' ac'.tmps.toList → Ok K E' S' X w' → ac'.defers = ac.defers → Q .normal ac' w') → wpAny P .any ops Q k listed ac w := by
  intro k
  induction k with
  | zero =>
    intro m ex ev R S listed XR XE ac w E outs hk hI h hv hq
    have hsz : listed.size = ops.size := by simpa using hI.size
    have hall : ∀ i, i < ops.size → listed.getD i false = true := by
      intro i hi
      cases hl : listed.getD i false with
      | true => rfl
      | false =>
        have := count_set (i := i) (by omega) hl
        omega
    have hr : Region.ready .any ops listed = [] := by
      cases hh : Region.ready .any ops listed with
      | nil => rfl
      | cons i rest =>
        have hm : i ∈ Region.ready .any ops listed := by rw [hh]; simp
        obtain ⟨o, _, h1, h2, _⟩ := mem_ready hm
        have h3 := hall i h1
        have : i < listed.size := by omega
        simp [Array.getD_eq_getD_getElem?, this] at h2 h3
        rw [h2] at h3; cases h3
    refine ⟨hr, ?_⟩
    have hev : ∀ i, i < ops.toList.length → (evAt ev i).isSome := fun i hi => hI.dom i (hall i (by simpa using hi))
    cases m with
    | zero => simp [drawGo] at hv
    | succ m =>
      simp only [drawGo] at hv
      split at hv
      · split at hv
        · split at hv
          · simp only [Option.some.injEq] at hv; subst hv
            exact hq _ S E w ac (List.mem_singleton.2 rfl) (finR_sound hI.rR hI.rE hI.cur (fun i hi => hall i (by simpa using hi)) hev) h rfl
          · simp at hv
        · rename_i i is0 hfil
          have : i ∈ (List.range ops.toList.length).filter fun i => (evAt ev i).isNone && ready Bs ev i := by rw [hfil]; simp
          simp only [List.mem_filter, List.mem_range, Bool.and_eq_true] at this
          have h1 := hev i this.1
          have h2 := this.2.1
          cases hx : evAt ev i <;> simp [hx] at h1 h2
      · simp at hv
  | succ k ih =>
    intro m ex ev R S listed XR XE ac w E outs hk hI h hv hq
    have hsz : listed.size = ops.size := by simpa using hI.size
    cases m with
    | zero => simp [drawGo] at hv
    | succ m =>
      have hv0 := hv
      simp only [drawGo] at hv
      split at hv
      rotate_left
      · simp at hv
      rename_i hgo
      unfold goChk at hgo
      rw [List.all_eq_true] at hgo
      refine ⟨fun hr => ?_, fun i hi => ?_⟩
      · have hall := all_listed hD hsz hr
        have hev : ∀ i, i < ops.toList.length → (evAt ev i).isSome := fun i hi => hI.dom i (hall i (by simpa using hi))
        split at hv
        · split at hv
          · simp only [Option.some.injEq] at hv; subst hv
            exact hq _ S E w ac (List.mem_singleton.2 rfl) (finR_sound hI.rR hI.rE hI.cur (fun i hi => hall i (by simpa using hi)) hev) h rfl
          · simp at hv
        · rename_i i is0 hfil
          have : i ∈ (List.range ops.toList.length).filter fun i => (evAt ev i).isNone && ready Bs ev i := by rw [hfil]; simp
          simp only [List.mem_filter, List.mem_range, Bool.and_eq_true] at this
          have h1 := hev i this.1
          have h2 := this.2.1
          cases hx : evAt ev i <;> simp [hx] at h1 h2
      · obtain ⟨o, ho, hilt, hun0, hedge⟩ := mem_ready hi
        have hil : i < listed.size := by omega
        have hun : listed.getD i false = false := by
          simp [Array.getD_eq_getD_getElem?, hil] at hun0 ⊢; exact hun0
        have hB : ∀ j ∈ Bs.getD i [], listed.getD j false = true := by
          intro j hj
          obtain ⟨e, he1, hbe, he2⟩ := hD.pred i o ho j hj
          have hle := hedge e he1 hbe
          rcases he2 with rfl | he2
          · exact hle
          · exact hI.closed _ hle j he2
        have hoA : ops[i]? = some o := by rw [← Array.getElem?_toList]; exact ho
        have hcount := count_set hil hun
        have hgi := hgo i (List.mem_range.2 (by simpa using hilt))
        simp only [ho] at hgi
        have hev_len : i < ev.length := by rw [hI.evl]; simpa using hilt
        unfold wpOp
        rw [hoA]
        simp only
        cases hevi : evAt ev i with
        | some v =>
          simp only [hevi, Bool.or_eq_true] at hgi
          rcases hgi with hgi | hgi
          · have := hI.exd i (by simpa using hgi)
            rw [hun] at this; cases this
          · split at hgi
            · rename_i u hu
              have huv := beqA_eq _ _ hgi
              subst huv
              -- behind it: the same abstract state
              have go : ∀ y, VR E v y → wpAny P .any ops Q k (listed.setIfInBounds i true) (ac.put o.dst y) w := by
                intro y hy
                have hset : evList ev = (evList ev).set i v := by
                  have := evList_get hevi
                  apply List.ext_getElem?
                  intro q
                  rw [List.getElem?_set]
                  split
                  · rename_i hq; subst hq
                    rw [this]; simp [evList, hev_len]
                  · rfl
                have rE' : VRs E (evList ev) (XE.set i y) := by rw [hset]; exact hI.rE.set hy
                have hXl : i < XE.length := by rw [← hI.rE.length]; simpa [evList] using hev_len
                refine ih (m + 1) (ex := ex) (ev := ev) (R := R) (S := S) (XR := XR) (XE := XE.set i y) (by omega) ?_ h hv0 fun R' S' E' w' ac' hm hR' h' hd => hq R' S' E' w' ac' hm hR' h' (hd.trans put_defers)
                refine hI.next hD ho hB rfl (fun k hk => .inr (hI.exd k hk)) (by rw [hevi]; rfl) (fun j hj => hj) hI.rR rE' (by simp [List.getD, hXl]) fun j hj => ?_
                have hne : i ≠ j := by rintro rfl; rw [hun] at hj; cases hj
                simp [List.getD, List.getElem?_set_ne hne]
              unfold quietVal at hu
              split at hu
              · rename_i hg
                have hw := gAt_sound hI.rR hI.rE hI.cur hB hD.dst hg
                rw [if_neg (by rw [hw]; simp)]
                simp only [Option.some.injEq] at hu; subst hu
                exact go undef (by simp only [uv, VR])
              · rename_i hg
                have hw := gAt_sound hI.rR hI.rE hI.cur hB hD.dst hg
                rw [if_pos hw]
                split at hu
                · simp at hu
                · left
                  obtain ⟨y, g1, g2⟩ := aread_sound h (opD_sound hI.rR hI.rE hI.cur hun hB hI.closed) hu
                  unfold Oper.wp
                  rw [g1, Oper.upon_value]
                  exact go y g2
              · simp at hu
            · cases hgi
        | none =>
          simp only [hevi, Bool.or_eq_true, Bool.not_eq_true', Bool.and_eq_true, beq_iff_eq] at hgi
          have hrdy : ready Bs ev i = true := by
            unfold ready
            rw [List.all_eq_true]
            exact fun j hj => hI.dom j (hB j hj)
          rcases hgi with hgi | ⟨hg, hisW⟩
          · rw [hrdy] at hgi; cases hgi
          · have hw := gAt_sound hI.rR hI.rE hI.cur hB hD.dst hg
            rw [if_pos hw]
            left
            have hmem : i ∈ (List.range ops.toList.length).filter fun i => (evAt ev i).isNone && ready Bs ev i := by
              simp only [List.mem_filter, List.mem_range, Bool.and_eq_true, hevi, Option.isNone_none, true_and]
              exact ⟨by simpa using hilt, hrdy⟩
            split at hv
            · rename_i hfil; rw [hfil] at hmem; cases hmem
            · rename_i i' is0 hfil
              rw [hfil] at hmem
              obtain ⟨zs, hzs, hsub0⟩ := bindAll_mem hv hmem
              clear hv
              simp only [ho, Option.bind_eq_some_iff] at hzs
              obtain ⟨os, hos, hv⟩ := hzs
              refine aeff_sound he hcl (CX := [XR, XE]) h (opD_sound hI.rR hI.rE hI.cur hun hB hI.closed) ?_ hos ?_
              · simp only [SR]; exact ⟨XR, [XE], hI.rR, ⟨XE, [], hI.rE, rfl, rfl⟩, rfl⟩
              · intro v ctx' S' E' w' y hm hy hc' h'
                obtain ⟨ys, hys, hsub⟩ := bindAll_mem hv hm
                simp only at hys
                split at hys
                · rename_i R' l'
                  obtain ⟨c1, c2⟩ := hc'.two
                  split at hys
                  · rename_i hll
                    obtain ⟨b1, b2, b3⟩ := evBack_sound hI.rE c2
                    have hbl : i < (evBack ev l').length := by rw [b2]; exact hev_len
                    have rE2 : VRs E' (evList ((evBack ev l').set i (some v))) (XE.set i y) := by
                      have : evList ((evBack ev l').set i (some v)) = (evList (evBack ev l')).set i v := by simp [evList, List.map_set]
                      rw [this]; exact b1.set hy
                    obtain ⟨XE3, s1, s2, s3⟩ := saturate_sound (P := P) (ops := ops.toList) (Bs := Bs) h' c1 (List.range ops.toList.length) rE2
                    have hXl : i < XE.length := by rw [← hI.rE.length]; simpa [evList] using hev_len
                    have hi2 : (evAt ((evBack ev l').set i (some v)) i).isSome := by rw [evAt_set hbl]; rfl
                    have hj2 : ∀ j, (evAt ev j).isSome → (evAt ((evBack ev l').set i (some v)) j).isSome := by
                      intro j hj
                      by_cases e : i = j
                      · subst e; exact hi2
                      · rw [evAt_set_ne e]; exact b3 j hj
                    refine ih m (by omega) (hI.next (ex' := i :: (Bs.getD i [] ++ ex)) hD ho hB ?_ (fun k hk => (List.mem_cons.1 hk).imp id fun hk => (List.mem_append.1 hk).elim (hB k) (hI.exd k)) ?_ ?_ c1 s1 ?_ ?_) h' hys fun R2 S2 E2 w2 ac2 hm2 hR2 h2 hd2 => hq R2 S2 E2 w2 ac2 (hsub0 _ (hsub _ hm2)) hR2 h2 (hd2.trans put_defers)
                    · rw [s2]; simpa using b2
                    · rw [(s3 i hi2).2]; exact hi2
                    · intro j hj
                      rw [(s3 j (hj2 j hj)).2]; exact hj2 j hj
                    · rw [(s3 i hi2).1]; simp [List.getD, hXl]
                    · intro j hj
                      have hne : i ≠ j := by rintro rfl; rw [hun] at hj; cases hj
                      rw [(s3 j (hj2 j (hI.dom j hj))).1]
                      simp [List.getD, List.getElem?_set_ne hne]
                  · simp at hys
                · simp at hys

end Go.Eng

namespace Go.Eng
open Go.RowKit

variable {P : Program} {K : Fix} {E F : Env} {S S' : St} {X : List (List Value)} {w w' : World} {a b v : AVal} {x y : Value} {t s : TypeId} {l r : List AVal} {xs : List Value} {i j n off f : Nat}

/-! ### names anew: what nothing leads to is let go -/

structure Rnm where
  ids : List Nat
  qs : List Nat

def place (l : List Nat) (b : Nat) : Option Nat := l.findIdx? (· == b)

theorem place_get {l : List Nat} {b c : Nat} (h : place l b = some c) : l[c]? = some b := by
  unfold place at h
  obtain ⟨hlt, h1, _⟩ := List.findIdx?_eq_some_iff_getElem.1 h
  simp only [beq_iff_eq] at h1
  simp [hlt, h1]

def Rnm.env (N : Rnm) (E : Env) : Env := { rho := fun b => (N.ids[b]?).bind E.rho, kap := fun q => (N.qs[q]?).bind E.kap }

mutual
def ren (N : Rnm) : AVal → Option AVal
  | .lit v => some (.lit v)
  | .ptr b off => (place N.ids b).map fun c => .ptr c off
  | .slice b off len m none => (place N.ids b).map fun c => .slice c off len m none
  | .slice b off len m (some q) => match place N.ids b, place N.qs q with
    | some c, some p => some (.slice c off len m (some p))
    | _, _ => none
  | .map b => (place N.ids b).map .map
  | .func fn f g => match rens N f, rens N g with
    | some f, some g => some (.func fn f g)
    | _, _ => none
  | .iface t v => (ren N v).map (.iface t)
  | .agg l => (rens N l).map .agg
  | .tuple l => (rens N l).map .tuple
def rens (N : Rnm) : List AVal → Option (List AVal)
  | [] => some []
  | a :: l => match ren N a, rens N l with
    | some b, some m => some (b :: m)
    | _, _ => none
end

theorem rho_env {N : Rnm} {b c d : Nat} (h : place N.ids b = some c) (hb : E.rho b = some d) : (N.env E).rho c = some d := by
  simp only [Rnm.env, place_get h, Option.bind_some, hb]
theorem kap_env {N : Rnm} {b c d : Nat} (h : place N.qs b = some c) (hb : E.kap b = some d) : (N.env E).kap c = some d := by
  simp only [Rnm.env, place_get h, Option.bind_some, hb]

mutual
theorem ren_sound {N : Rnm} : ∀ {a a' : AVal} {x : Value}, ren N a = some a' → VR E a x → VR (N.env E) a' x
  | .lit v, a', x, h, r => by
    simp only [ren, Option.some.injEq] at h; subst h; simpa only [VR] using r
  | .ptr b off, a', x, h, r => by
    simp only [ren, Option.map_eq_some_iff] at h; obtain ⟨c, hc, rfl⟩ := h
    simp only [VR] at r ⊢; obtain ⟨d, h1, h2⟩ := r
    exact ⟨d, rho_env hc h1, h2⟩
  | .slice b off len m none, a', x, h, r => by
    simp only [ren, Option.map_eq_some_iff] at h; obtain ⟨c, hc, rfl⟩ := h
    simp only [VR] at r ⊢; obtain ⟨d, k, h1, h2, h3⟩ := r
    exact ⟨d, k, rho_env hc h1, h2, h3⟩
  | .slice b off len m (some q), a', x, h, r => by
    simp only [ren] at h
    split at h
    · rename_i c p hc hp
      simp only [Option.some.injEq] at h; subst h
      simp only [VR] at r ⊢; obtain ⟨d, k, h1, ⟨n, k1, k2, k3⟩, h3⟩ := r
      exact ⟨d, k, rho_env hc h1, ⟨n, kap_env hp k1, k2, k3⟩, h3⟩
    · simp at h
  | .map b, a', x, h, r => by
    simp only [ren, Option.map_eq_some_iff] at h; obtain ⟨c, hc, rfl⟩ := h
    simp only [VR] at r ⊢; obtain ⟨d, h1, h2⟩ := r
    exact ⟨d, rho_env hc h1, h2⟩
  | .func fn f g, a', x, h, r => by
    simp only [ren] at h
    split at h
    · rename_i f' g' hf hg
      simp only [Option.some.injEq] at h; subst h
      simp only [VR] at r ⊢; obtain ⟨fs, gs, h1, h2, h3⟩ := r
      exact ⟨fs, gs, rens_sound hf h1, rens_sound hg h2, h3⟩
    · simp at h
  | .iface t v, a', x, h, r => by
    simp only [ren, Option.map_eq_some_iff] at h; obtain ⟨c, hc, rfl⟩ := h
    simp only [VR] at r ⊢; obtain ⟨d, h1, h2⟩ := r
    exact ⟨d, ren_sound hc h1, h2⟩
  | .agg l, a', x, h, r => by
    simp only [ren, Option.map_eq_some_iff] at h; obtain ⟨c, hc, rfl⟩ := h
    simp only [VR] at r ⊢; obtain ⟨d, h1, h2⟩ := r
    exact ⟨d, rens_sound hc h1, h2⟩
  | .tuple l, a', x, h, r => by
    simp only [ren, Option.map_eq_some_iff] at h; obtain ⟨c, hc, rfl⟩ := h
    simp only [VR] at r ⊢; obtain ⟨d, h1, h2⟩ := r
    exact ⟨d, rens_sound hc h1, h2⟩
theorem rens_sound {N : Rnm} : ∀ {l l' : List AVal} {xs : List Value}, rens N l = some l' → VRs E l xs → VRs (N.env E) l' xs
  | [], l', xs, h, r => by
    simp only [rens, Option.some.injEq] at h; subst h; simpa only [VRs] using r
  | a :: l, l', xs, h, r => by
    simp only [rens] at h
    split at h
    · rename_i b m hb hm
      simp only [Option.some.injEq] at h; subst h
      simp only [VRs] at r ⊢; obtain ⟨x, s, h1, h2, h3⟩ := r
      exact ⟨x, s, ren_sound hb h1, rens_sound hm h2, h3⟩
    · simp at h
end

def renEs (N : Rnm) : List AEnt → Option (List AEnt)
  | [] => some []
  | e :: l => match ren N e.key, ren N e.val, renEs N l with
    | some k, some v, some m => some (⟨k, v, e.born⟩ :: m)
    | _, _, _ => none

theorem renEs_sound {N : Rnm} : ∀ {l l' : List AEnt} {ms : List MapEntry}, renEs N l = some l' → ER E l ms → ER (N.env E) l' ms
  | [], l', ms, h, r => by
    simp only [renEs, Option.some.injEq] at h; subst h; simpa only [ER] using r
  | e :: l, l', ms, h, r => by
    simp only [renEs] at h
    split at h
    · rename_i k v m hk hv hm
      simp only [Option.some.injEq] at h; subst h
      simp only [ER] at r ⊢; obtain ⟨x, s, h1, h2, h3, h4, h5⟩ := r
      exact ⟨x, s, ren_sound hk h1, ren_sound hv h2, h3, renEs_sound hm h4, h5⟩
    · simp at h

def renO (N : Rnm) : AObj → Option AObj
  | .cells l e fz none => (rens N l).map fun l => .cells l e fz none
  | .cells l e fz (some (q, s)) => match rens N l, place N.qs q with
    | some l, some p => some (.cells l e fz (some (p, s)))
    | _, _ => none
  | .map es c => (renEs N es).map fun es => .map es c
  | .iter none a b c => some (.iter none a b c)
  | .iter (some m) a b c => (place N.ids m).map fun p => .iter (some p) a b c
  | .raw o => some (.raw o)

theorem renO_sound {N : Rnm} {o o' : AObj} {u : Obj} (h : renO N o = some o') (r : OR E o u) : OR (N.env E) o' u := by
  unfold renO at h
  split at h
  · simp only [Option.map_eq_some_iff] at h; obtain ⟨l', hl, rfl⟩ := h
    obtain ⟨xs, h1, h2⟩ := r
    exact ⟨xs, rens_sound hl h1, h2⟩
  · split at h
    · rename_i l' p hl hp
      simp only [Option.some.injEq] at h; subst h
      obtain ⟨xs, tl, n, h1, h2, h3, h4⟩ := r
      exact ⟨xs, tl, n, rens_sound hl h1, kap_env hp h2, h3, h4⟩
    · simp at h
  · simp only [Option.map_eq_some_iff] at h; obtain ⟨l', hl, rfl⟩ := h
    obtain ⟨xs, h1, h2⟩ := r
    exact ⟨xs, renEs_sound hl h1, h2⟩
  · simp only [Option.some.injEq] at h; subst h; 
    obtain ⟨c, h1, h2⟩ := r
    exact ⟨c, h1, h2⟩
  · simp only [Option.map_eq_some_iff] at h; obtain ⟨p, hp, rfl⟩ := h
    obtain ⟨c, ⟨d, h1, h3⟩, h2⟩ := r
    exact ⟨c, ⟨d, rho_env hp h1, h3⟩, h2⟩
  · simp only [Option.some.injEq] at h; subst h; exact r

def renHeap (N : Rnm) (H : List AObj) : List Nat → Option (List AObj)
  | [] => some []
  | b :: l => match (H[b]?).bind (renO N), renHeap N H l with
    | some o, some m => some (o :: m)
    | _, _ => none

theorem renHeap_get {N : Rnm} {H : List AObj} : ∀ {l : List Nat} {H' : List AObj} {k : Nat} {o' : AObj}, renHeap N H l = some H' → H'[k]? = some o' → ∃ b o, l[k]? = some b ∧ H[b]? = some o ∧ renO N o = some o'
  | [], H', k, o', h, hk => by simp only [renHeap, Option.some.injEq] at h; subst h; simp at hk
  | b :: l, H', k, o', h, hk => by
    simp only [renHeap] at h
    split at h
    · rename_i o m ho hm
      simp only [Option.some.injEq] at h; subst h
      cases k with
      | zero =>
        simp at hk; subst hk
        simp only [Option.bind_eq_some_iff] at ho
        obtain ⟨u, h1, h2⟩ := ho
        exact ⟨b, u, by simp, h1, h2⟩
      | succ k => simp at hk; simpa using renHeap_get hm hk
    · simp at h
theorem renHeap_length {N : Rnm} {H : List AObj} : ∀ {l : List Nat} {H' : List AObj}, renHeap N H l = some H' → H'.length = l.length
  | [], H', h => by simp only [renHeap, Option.some.injEq] at h; subst h; rfl
  | b :: l, H', h => by
    simp only [renHeap] at h
    split at h
    · rename_i o m ho hm
      simp only [Option.some.injEq] at h; subst h
      simp [renHeap_length hm]
    · simp at h

def renCaps (cs : List Nat) : List Nat → Option (List Nat)
  | [] => some []
  | q :: l => match cs[q]?, renCaps cs l with
    | some c, some m => some (c :: m)
    | _, _ => none
theorem renCaps_get {cs : List Nat} : ∀ {l : List Nat} {r : List Nat} {k c : Nat}, renCaps cs l = some r → r[k]? = some c → ∃ q, l[k]? = some q ∧ cs[q]? = some c
  | [], r, k, c, h, hk => by simp only [renCaps, Option.some.injEq] at h; subst h; simp at hk
  | q :: l, r, k, c, h, hk => by
    simp only [renCaps] at h
    split at h
    · rename_i o m ho hm
      simp only [Option.some.injEq] at h; subst h
      cases k with
      | zero => simp at hk; subst hk; exact ⟨q, by simp, ho⟩
      | succ k => simp at hk; simpa using renCaps_get hm hk
    · simp at h
theorem renCaps_length {cs : List Nat} : ∀ {l r : List Nat}, renCaps cs l = some r → r.length = l.length
  | [], r, h => by simp only [renCaps, Option.some.injEq] at h; subst h; rfl
  | q :: l, r, h => by
    simp only [renCaps] at h
    split at h
    · rename_i o m ho hm
      simp only [Option.some.injEq] at h; subst h
      simp [renCaps_length hm]
    · simp at h

def renStk (N : Rnm) : List (List AVal) → Option (List (List AVal))
  | [] => some []
  | a :: l => match rens N a, renStk N l with
    | some b, some m => some (b :: m)
    | _, _ => none
theorem renStk_sound {N : Rnm} : ∀ {l l' : List (List AVal)} {X : List (List Value)}, renStk N l = some l' → SR E l X → SR (N.env E) l' X
  | [], l', X, h, r => by simp only [renStk, Option.some.injEq] at h; subst h; simpa only [SR] using r
  | a :: l, l', X, h, r => by
    simp only [renStk] at h
    split at h
    · rename_i b m hb hm
      simp only [Option.some.injEq] at h; subst h
      simp only [SR] at r ⊢; obtain ⟨x, s, h1, h2, h3⟩ := r
      exact ⟨x, s, rens_sound hb h1, renStk_sound hm h2, h3⟩
    · simp at h

def nodup : List Nat → Bool
  | [] => true
  | x :: l => !l.contains x && nodup l
theorem nodup_sound : ∀ {l : List Nat}, nodup l = true → ∀ {i j : Nat} {x : Nat}, l[i]? = some x → l[j]? = some x → i = j
  | [], _, i, j, x, h, _ => by simp at h
  | y :: l, h, i, j, x, hi, hj => by
    simp only [nodup, Bool.and_eq_true, Bool.not_eq_true', List.contains_eq_mem, decide_eq_false_iff_not] at h
    cases i with
    | zero =>
      simp at hi; subst hi
      cases j with
      | zero => rfl
      | succ j => simp at hj; exact absurd (List.mem_of_getElem? hj) h.1
    | succ i =>
      simp at hi
      cases j with
      | zero => simp at hj; subst hj; exact absurd (List.mem_of_getElem? hi) h.1
      | succ j => simp at hj; rw [nodup_sound h.2 hi hj]

def gcBy (N : Rnm) (p : AVal × St) : Option (AVal × St) :=
  if nodup N.ids = true then
    match ren N p.1, renHeap N p.2.heap N.ids, renCaps p.2.caps N.qs, renStk N p.2.stk with
    | some v, some h, some c, some k => some (v, { heap := h, caps := c, stk := k })
    | _, _, _, _ => none
  else none

theorem gcBy_sound {N : Rnm} (h : Ok K E S X w) (hv : VR E v x) (hg : gcBy N (v, S) = some (b, S')) : ∃ E', VR E' b x ∧ Ok K E' S' X w := by
  unfold gcBy at hg
  split at hg
  · rename_i hnd
    split at hg
    · rename_i v' H' c' k' h1 h2 h3 h4
      simp only [Option.some.injEq, Prod.mk.injEq] at hg; obtain ⟨rfl, rfl⟩ := hg
      refine ⟨N.env E, ren_sound h1 hv, ?_⟩
      constructor
      · intro q hq
        simp only [renHeap_length h2]
        simp only [Rnm.env] at hq
        rcases Nat.lt_or_ge q N.ids.length with g | g
        · exact g
        · rw [List.getElem?_eq_none g] at hq; cases hq
      · intro q o hq
        obtain ⟨bb, oo, e1, e2, e3⟩ := renHeap_get h2 hq
        obtain ⟨c, u, g1, g2, g3, g4⟩ := h.obj bb oo e2
        exact ⟨c, u, by simp only [Rnm.env, e1, Option.bind_some, g1], g2, g3, renO_sound e3 g4⟩
      · intro q q' c hq hq'
        simp only [Rnm.env, Option.bind_eq_some_iff] at hq hq'
        obtain ⟨bb, e1, e2⟩ := hq
        obtain ⟨b2, e3, e4⟩ := hq'
        have := h.inj _ _ _ e2 e4
        subst this
        exact nodup_sound hnd e1 e3
      · intro q hq
        simp only [renCaps_length h3]
        simp only [Rnm.env] at hq
        rcases Nat.lt_or_ge q N.qs.length with g | g
        · exact g
        · rw [List.getElem?_eq_none g] at hq; cases hq
      · intro q lo hq
        obtain ⟨p, e1, e2⟩ := renCaps_get h3 hq
        obtain ⟨n, g1, g2⟩ := h.lb p lo e2
        exact ⟨n, by simp only [Rnm.env, e1, Option.bind_some, g1], g2⟩
      · exact h.below
      · exact h.base
      · exact renStk_sound h4 h.stk
    · simp at hg
  · simp at hg

/-! which names are led to -/
mutual
def namesV : AVal → List Nat × List Nat
  | .lit _ => ([], [])
  | .ptr b _ => ([b], [])
  | .slice b _ _ _ none => ([b], [])
  | .slice b _ _ _ (some q) => ([b], [q])
  | .map b => ([b], [])
  | .func _ f g => let p := namesL f; let q := namesL g; (p.1 ++ q.1, p.2 ++ q.2)
  | .iface _ v => namesV v
  | .agg l => namesL l
  | .tuple l => namesL l
def namesL : List AVal → List Nat × List Nat
  | [] => ([], [])
  | a :: l => let p := namesV a; let q := namesL l; (p.1 ++ q.1, p.2 ++ q.2)
end
def namesE : List AEnt → List Nat × List Nat
  | [] => ([], [])
  | e :: l => let p := namesV e.key; let q := namesV e.val; let r := namesE l; (p.1 ++ q.1 ++ r.1, p.2 ++ q.2 ++ r.2)
def namesO : AObj → List Nat × List Nat
  | .cells l _ _ none => namesL l
  | .cells l _ _ (some (q, _)) => let p := namesL l; (p.1, q :: p.2)
  | .map es _ => namesE es
  | .iter (some m) _ _ _ => ([m], [])
  | _ => ([], [])
def namesS : List (List AVal) → List Nat × List Nat
  | [] => ([], [])
  | a :: l => let p := namesL a; let q := namesS l; (p.1 ++ q.1, p.2 ++ q.2)

def addNew : List Nat → List Nat → List Nat
  | [], s => s
  | x :: l, s => if s.contains x then addNew l s else addNew l (s ++ [x])

def reach (H : List AObj) : Nat → List Nat → List Nat → List Nat → List Nat × List Nat
  | 0, _, s, q => (s, q)
  | _, [], s, q => (s, q)
  | n + 1, b :: l, s, q =>
    if s.contains b then reach H n l s q
    else match H[b]? with
      | some o => let p := namesO o; reach H n (p.1 ++ l) (s ++ [b]) (addNew p.2 q)
      | none => reach H n l (s ++ [b]) q

def renOf (p : AVal × St) : Rnm :=
  let r := namesV p.1
  let k := namesS p.2.stk
  let z := reach p.2.heap 100000 (r.1 ++ k.1) [] (addNew (r.2 ++ k.2) [])
  ⟨z.1, z.2⟩

def gc (p : AVal × St) : AVal × St := (gcBy (renOf p) p).getD p

theorem gc_sound (h : Ok K E S X w) (hv : VR E v x) : ∃ E', VR E' (gc (v, S)).1 x ∧ Ok K E' (gc (v, S)).2 X w := by
  unfold gc
  cases hg : gcBy (renOf (v, S)) (v, S) with
  | none => exact ⟨E, hv, h⟩
  | some q => obtain ⟨b, S'⟩ := q; exact gcBy_sound h hv hg

def beqE : List AEnt → List AEnt → Bool := allSame fun a b => beqA a.key b.key && beqA a.val b.val && decide (a.born = b.born)
def beqO : AObj → AObj → Bool
  | .cells l e fz op, .cells l' e' fz' op' => beqAs l l' && decide (e = e') && decide (fz = fz') && decide (op = op')
  | .map es c, .map es' c' => beqE es es' && decide (c = c')
  | .iter m a b c, .iter m' a' b' c' => decide (m = m') && decide (a = a') && decide (b = b') && decide (c = c')
  | _, _ => false
def beqP (p q : AVal × St) : Bool := beqA p.1 q.1 && allSame beqO p.2.heap q.2.heap && decide (p.2.caps = q.2.caps) && allSame beqAs p.2.stk q.2.stk

theorem beqO_eq (a b : AObj) (h : beqO a b = true) : a = b := by
  unfold beqO at h
  split at h
  · simp only [Bool.and_eq_true, decide_eq_true_eq] at h
    obtain ⟨⟨⟨h1, h2⟩, h3⟩, h4⟩ := h
    rw [beqAs_eq _ _ h1, h2, h3, h4]
  · simp only [Bool.and_eq_true, decide_eq_true_eq] at h
    rw [allSame_eq (fun x y hh => by
      simp only [Bool.and_eq_true, decide_eq_true_eq] at hh
      cases x; cases y
      simp only at hh
      rw [beqA_eq _ _ hh.1.1, beqA_eq _ _ hh.1.2, hh.2]) h.1, h.2]
  · simp only [Bool.and_eq_true, decide_eq_true_eq] at h
    obtain ⟨⟨⟨h1, h2⟩, h3⟩, h4⟩ := h
    rw [h1, h2, h3, h4]
  · cases h

theorem beqP_eq (p q : AVal × St) (h : beqP p q = true) : p = q := by
  obtain ⟨v, H, c, k⟩ := p
  obtain ⟨v', H', c', k'⟩ := q
  simp only [beqP, Bool.and_eq_true, decide_eq_true_eq] at h
  obtain ⟨⟨⟨h1, h2⟩, h3⟩, h4⟩ := h
  rw [beqA_eq _ _ h1, allSame_eq beqO_eq h2, h3, allSame_eq (fun x y hh => beqAs_eq x y hh) h4]

def dedup (f : AVal × St → AVal × St → Bool) : List (AVal × St) → List (AVal × St)
  | [] => []
  | p :: l => let r := dedup f l; if r.any (f p) then r else p :: r

theorem dedup_mem {p : AVal × St} : ∀ {l : List (AVal × St)}, p ∈ l → p ∈ dedup beqP l
  | q :: l, h => by
    simp only [dedup]
    rcases List.mem_cons.1 h with rfl | h
    · split
      · rename_i ha
        obtain ⟨q, h1, h2⟩ := List.any_eq_true.1 ha
        rw [beqP_eq _ _ h2]; exact h1
      · simp
    · have := dedup_mem h
      split
      · exact this
      · exact List.mem_cons_of_mem _ this

def merge : List (AVal × St) → List (AVal × St)
  | [p] => if p.2.heap.length ≤ 120 then [p] else [gc p]
  | l => dedup beqP (l.map gc)

theorem merge_sound {outs : List (AVal × St)} (h : Ok K E S X w) (hv : VR E v x) (hm : (v, S) ∈ outs) : ∃ v' S' E', (v', S') ∈ merge outs ∧ VR E' v' x ∧ Ok K E' S' X w := by
  obtain ⟨E', g1, g2⟩ := gc_sound h hv
  have hd : ∃ v' S' E', (v', S') ∈ dedup beqP (outs.map gc) ∧ VR E' v' x ∧ Ok K E' S' X w := ⟨_, _, E', dedup_mem (List.mem_map.2 ⟨(v, S), hm, rfl⟩), g1, g2⟩
  match outs, hm, hd with
  | [p], hm, hd =>
    rw [List.mem_singleton] at hm
    subst hm
    by_cases hc : S.heap.length ≤ 120
    · refine ⟨v, S, E, ?_, hv, h⟩
      show (v, S) ∈ (if S.heap.length ≤ 120 then [(v, S)] else [gc (v, S)])
      rw [if_pos hc]; exact List.mem_singleton.2 rfl
    · refine ⟨_, _, E', ?_, g1, g2⟩
      show ((gc (v, S)).1, (gc (v, S)).2) ∈ (if S.heap.length ≤ 120 then [(v, S)] else [gc (v, S)])
      rw [if_neg hc]; exact List.mem_singleton.2 rfl
  | [], hm, hd => cases hm
  | p :: q :: l, hm, hd => exact hd

end Go.Eng

namespace Go.Eng
open Go.RowKit

variable {P : Program} {K : Fix} {E F : Env} {S S' : St} {X : List (List Value)} {w w' : World} {a b v : AVal} {x y : Value} {t s : TypeId} {l r : List AVal} {xs : List Value} {i j n off f : Nat}

/-! ### code -/

inductive AExit where
  | normal
  | exit (id : Nat)
  | ret

def AExit.conc : AExit → Exit
  | .normal => .normal
  | .exit id => .exit id
  | .ret => .ret

abbrev Outs := List (AExit × List AVal × St)

/-- A frame's values, out of the tuple that bore them. -/
def unT : AVal → List AVal
  | .tuple l => l
  | .lit (.tuple xs) => xs.toList.map .lit
  | _ => []

theorem unT_sound {ys : List Value} : ∀ {v : AVal}, VR E v (.tuple ys.toArray) → VRs E (unT v) ys
  | .tuple l, h => by
    simp only [VR] at h; obtain ⟨xs, h1, h2⟩ := h
    simp only [Value.tuple.injEq] at h2
    have : ys = xs := by simpa using congrArg Array.toList h2
    rw [this]; exact h1
  | .lit z, h => by
    simp only [VR] at h; subst h
    exact VRs.lits ys
  | .ptr .., h => by simp only [VR] at h; obtain ⟨_, _, h⟩ := h; cases h
  | .slice .., h => by simp only [VR] at h; obtain ⟨_, _, _, _, h⟩ := h; cases h
  | .map .., h => by simp only [VR] at h; obtain ⟨_, _, h⟩ := h; cases h
  | .func .., h => by simp only [VR] at h; obtain ⟨_, _, _, _, h⟩ := h; cases h
  | .iface .., h => by simp only [VR] at h; obtain ⟨_, _, h⟩ := h; cases h
  | .agg .., h => by simp only [VR] at h; obtain ⟨_, _, h⟩ := h; cases h

/-- The ways in which a round goes on, those that are one taken once. -/
def mergeR : List (List AVal × St) → List (List AVal × St)
  | [] => []
  | [p] => [p]
  | p :: q :: l => (merge ((p :: q :: l).map fun r : List AVal × St => (AVal.tuple r.1, r.2))).map fun z => (unT z.1, z.2)

theorem mergeR_sound {R : List AVal} {l : List (List AVal × St)} (h : Ok K E S X w) (hR : VRs E R xs) (hm : (R, S) ∈ l) : ∃ R' S' E', (R', S') ∈ mergeR l ∧ VRs E' R' xs ∧ Ok K E' S' X w := by
  match l, hm with
  | [p], hm => exact ⟨R, S, E, hm, hR, h⟩
  | p :: q :: l, hm =>
    have hv : VR E (.tuple R) (.tuple xs.toArray) := by simp only [VR]; exact ⟨xs, hR, rfl⟩
    obtain ⟨v', S', E', m1, m2, m3⟩ := merge_sound h hv (List.mem_map (f := fun r : List AVal × St => (AVal.tuple r.1, r.2)) |>.2 ⟨(R, S), hm, rfl⟩)
    exact ⟨unT v', S', E', List.mem_map.2 ⟨(v', S'), m1, rfl⟩, unT_sound m2, m3⟩

def onOf (o : Outs) : List (List AVal × St) := o.filterMap fun p => match p.1 with
  | .normal => some p.2
  | _ => none
def offOf (o : Outs) : Outs := o.filter fun p => match p.1 with
  | .normal => false
  | _ => true

def iterL (body : List AVal → St → Option Outs) : Nat → List (List AVal × St) → Option Outs
  | _, [] => some []
  | 0, _ :: _ => none
  | n + 1, p :: l => (bindAll (fun p => body p.1 p.2) (p :: l)).bind fun o => (iterL body n (mergeR (onOf o))).map fun z => offOf o ++ z

def evalCode (P : Program) (K : Fix) (ext call : CallF) (rounds : Nat) : Code → List AVal → St → Option Outs
  | .skip, R, S => some [(.normal, R, S)]
  | .label _, R, S => some [(.normal, R, S)]
  | .region _ ops draw, R, S =>
    (if draw then adraw P K ext call ops.toList R S else aseq P K ext call ops ops.toList R S).map fun l => l.map fun p => (.normal, p)
  | .seq a b, R, S => (evalCode P K ext call rounds a R S).bind (bindAll fun p => match p.1 with
    | .normal => evalCode P K ext call rounds b p.2.1 p.2.2
    | _ => some [p])
  | .cond c a b, R, S =>
    match opR R c with
    | some (.lit (.bool true)) => evalCode P K ext call rounds a R S
    | some (.lit (.bool false)) => evalCode P K ext call rounds b R S
    | _ => none
  | .block id c, R, S => (evalCode P K ext call rounds c R S).map fun l => l.map fun p => match p.1 with
    | .exit id' => if id' = id then (.normal, p.2) else p
    | _ => p
  | .loop c, R, S => iterL (evalCode P K ext call rounds c) rounds [(R, S)]
  | .exit id, R, S => some [(.exit id, R, S)]
  | .scope c, R, S => evalCode P K ext call rounds c R S
  | .ret, R, S => some [(.ret, R, S)]
  | _, _, _ => none

/-- What is told of code: each way in which it may be left is among those that are told. -/
def CodeOk (P : Program) (K : Fix) (X : List (List Value)) (c : Code) (f : List AVal → St → Option Outs) : Prop :=
  ∀ {R : List AVal} {S : St} {E : Env} {w : World} {ac : Act} {outs : Outs} {Q : Exit → Act → World → Prop}, Ok K E S X w → VRs E R ac.tmps.toList → ac.defers = [] → f R S = some outs →
    (∀ e R' S' E' w' ac', (e, R', S') ∈ outs → VRs E' R' ac'.tmps.toList → Ok K E' S' X w' → ac'.defers = [] → Q (AExit.conc e) ac' w') → c.wp P Q ac w

theorem iterL_sound {c : Code} {body : List AVal → St → Option Outs} (hb : CodeOk P K X c body) : ∀ {n : Nat} {l : List (List AVal × St)} {R : List AVal} {S : St} {E : Env} {w : World} {ac : Act} {outs : Outs} {Q : Exit → Act → World → Prop},
    (R, S) ∈ l → Ok K E S X w → VRs E R ac.tmps.toList → ac.defers = [] → iterL body n l = some outs →
    (∀ e R' S' E' w' ac', (e, R', S') ∈ outs → VRs E' R' ac'.tmps.toList → Ok K E' S' X w' → ac'.defers = [] → Q (AExit.conc e) ac' w') → Code.rounds P c Q n ac w
  | n, [], R, S, E, w, ac, outs, Q, hl, h, hR, hd, hv, hq => by cases hl
  | 0, p :: l, R, S, E, w, ac, outs, Q, hl, h, hR, hd, hv, hq => by simp [iterL] at hv
  | n + 1, p :: l, R, S, E, w, ac, outs, Q, hl, h, hR, hd, hv, hq => by
    simp only [iterL, Option.bind_eq_some_iff, Option.map_eq_some_iff] at hv
    obtain ⟨o, ho, z, hz, rfl⟩ := hv
    obtain ⟨ys, hy, hsub⟩ := bindAll_mem ho hl
    rw [rounds_succ]
    refine hb h hR hd hy ?_
    intro e R' S' E' w' ac' hmem hR' h' hd'
    have hin := hsub _ hmem
    cases e with
    | normal =>
      have hon : (R', S') ∈ onOf o := List.mem_filterMap.2 ⟨(.normal, R', S'), hin, rfl⟩
      obtain ⟨R2, S2, E2, m1, m2, m3⟩ := mergeR_sound h' hR' hon
      exact iterL_sound hb m1 m3 m2 hd' hz fun e R3 S3 E3 w3 ac3 hm3 => hq e R3 S3 E3 w3 ac3 (List.mem_append_right _ hm3)
    | exit id => exact hq (.exit id) R' S' E' w' ac' (List.mem_append_left _ (List.mem_filter.2 ⟨hin, rfl⟩)) hR' h' hd'
    | ret => exact hq .ret R' S' E' w' ac' (List.mem_append_left _ (List.mem_filter.2 ⟨hin, rfl⟩)) hR' h' hd'

theorem evList_none (m : Nat) : VRs E (evList (List.replicate m none)) (List.replicate m undef) := by
  induction m with
  | zero => exact VRs.nil
  | succ m ih => simp only [List.replicate_succ, evList, List.map_cons]; exact VRs.cons (by simp only [Option.getD_none, uv, VR]) ih

theorem adraw_sound {ext call : CallF} (he : ExtOk P K ext) (hcl : CallOk P K call) (hm : P.follows .mixedOrders = true) {id : Nat} {ops : Array Oper} {R : List AVal} {ac : Act} {outs : List (List AVal × St)} {Q : Exit → Act → World → Prop}
    (h : Ok K E S X w) (hR : VRs E R ac.tmps.toList) (hv : adraw P K ext call ops.toList R S = some outs)
    (hq : ∀ R' S' E' w' ac', (R', S') ∈ outs → VRs E' R' ac'.tmps.toList → Ok K E' S' X w' → ac'.defers = ac.defers → Q .normal ac' w') : (Code.region id ops true).wp P Q ac w := by
  unfold adraw at hv
  simp only at hv
  split at hv
  · rename_i hc
    have hD := drawChk_sound hc
    refine wp_region_any hm ?_
    have hdr := h.drawn (w.drawn + 1)
    obtain ⟨XE, s1, s2, s3⟩ := saturate_sound (P := P) (ops := ops.toList) (Bs := predsOf ops.toList) hdr hR (List.range ops.toList.length) (evList_none (E := E) ops.toList.length)
    have hnl : ∀ i, (Array.replicate ops.size false).getD i false = false := by
      intro i
      rcases Nat.lt_or_ge i ops.size with g | g <;> simp [Array.getD_eq_getD_getElem?, g]
    refine drawGo_sound he hcl hD ops.size (ops.toList.length + 1) (ex := []) (R := R) (S := S) (XR := ac.tmps.toList) (XE := XE) (by simp) ?_ hdr hv hq
    refine ⟨by simp, by rw [saturate, s2]; simp, fun i hi => ?_, fun i hi => (by cases hi), fun j hj => ?_, hR, s1, fun t => ?_⟩
    · rw [hnl] at hi; cases hi
    · rw [hnl] at hj; cases hj
    · rw [Array.getElem?_toList]
      have : (curX ops.toList (Array.replicate ops.size false) XE t) = (fun r => r) := by
        funext r
        unfold curX
        split
        · rw [hnl]; simp
        · rfl
      rw [this]; simp
  · simp at hv

theorem evalCode_sound {ext call : CallF} (he : ExtOk P K ext) (hcl : CallOk P K call) (hm : P.follows .mixedOrders = true) (rounds : Nat) : ∀ (c : Code), CodeOk P K X c (evalCode P K ext call rounds c)
  | .skip => by
    intro h hR hd hv hq
    simp only [evalCode, Option.some.injEq] at hv; subst hv
    exact wp_skip (hq .normal _ _ _ _ _ (List.mem_singleton.2 rfl) hR h hd)
  | .label l => by
    intro h hR hd hv hq
    simp only [evalCode, Option.some.injEq] at hv; subst hv
    exact wp_label (hq .normal _ _ _ _ _ (List.mem_singleton.2 rfl) hR h hd)
  | .region id ops draw => by
    intro h hR hd hv hq
    rename_i R0 S0 E0 w0 ac0 outs0 Q0
    simp only [evalCode, Option.map_eq_some_iff] at hv
    obtain ⟨os, hos, rfl⟩ := hv
    have hq' : ∀ (R' : List AVal) (S' : St) (E' : Env) (w' : World) (ac' : Act), (R', S') ∈ os → VRs E' R' ac'.tmps.toList → Ok K E' S' X w' → ac'.defers = ac0.defers → Q0 .normal ac' w' := by
      intro R' S' E' w' ac' hmem hR' h' hd'
      exact hq .normal R' S' E' w' ac' (List.mem_map.2 ⟨(R', S'), hmem, rfl⟩) hR' h' (hd'.trans hd)
    cases draw with
    | false =>
      simp only [Bool.false_eq_true, if_false] at hos
      exact wp_region_list (aseq_sound he hcl h hR hos hq')
    | true =>
      simp only [if_true] at hos
      exact adraw_sound he hcl hm h hR hos hq'
  | .seq c d => by
    intro h hR hd hv hq
    simp only [evalCode, Option.bind_eq_some_iff] at hv
    obtain ⟨mid, hmid, hv⟩ := hv
    refine wp_seq (evalCode_sound he hcl hm rounds c h hR hd hmid ?_)
    intro e R' S' E' w' ac' hmem hR' h' hd'
    obtain ⟨ys, hy, hsub⟩ := bindAll_mem hv hmem
    cases e with
    | normal =>
      simp only at hy
      exact evalCode_sound he hcl hm rounds d h' hR' hd' hy fun e R2 S2 E2 w2 ac2 hm2 => hq e R2 S2 E2 w2 ac2 (hsub _ hm2)
    | exit id =>
      simp only [Option.some.injEq] at hy; subst hy
      exact hq (.exit id) R' S' E' w' ac' (hsub _ (List.mem_singleton.2 rfl)) hR' h' hd'
    | ret =>
      simp only [Option.some.injEq] at hy; subst hy
      exact hq .ret R' S' E' w' ac' (hsub _ (List.mem_singleton.2 rfl)) hR' h' hd'
  | .cond c d e => by
    intro h hR hd hv hq
    simp only [evalCode] at hv
    split at hv
    · rename_i hc
      have := opR_sound hR _ _ hc
      simp only [VR] at this
      exact wp_cond_true this (evalCode_sound he hcl hm rounds d h hR hd hv hq)
    · rename_i hc
      have := opR_sound hR _ _ hc
      simp only [VR] at this
      exact wp_cond_false this (evalCode_sound he hcl hm rounds e h hR hd hv hq)
    · simp at hv
  | .block id c => by
    intro h hR hd hv hq
    simp only [evalCode, Option.map_eq_some_iff] at hv
    obtain ⟨os, hos, rfl⟩ := hv
    refine wp_block (evalCode_sound he hcl hm rounds c h hR hd hos ?_)
    intro e R' S' E' w' ac' hmem hR' h' hd'
    have hmm := (List.mem_map (f := fun p : AExit × List AVal × St => match p.1 with
      | .exit id' => if id' = id then (AExit.normal, p.2) else p
      | _ => p)).2 ⟨(e, R', S'), hmem, rfl⟩
    cases e with
    | normal => exact hq .normal R' S' E' w' ac' hmm hR' h' hd'
    | exit id' =>
      simp only at hmm
      simp only [AExit.conc, Exit.inBlock]
      split
      · rename_i e; rw [if_pos e] at hmm; exact hq .normal R' S' E' w' ac' hmm hR' h' hd'
      · rename_i e; rw [if_neg e] at hmm; exact hq (.exit id') R' S' E' w' ac' hmm hR' h' hd'
    | ret => exact hq .ret R' S' E' w' ac' hmm hR' h' hd'
  | .loop c => by
    intro h hR hd hv hq
    simp only [evalCode] at hv
    exact wp_loop_rounds rounds (iterL_sound (evalCode_sound he hcl hm rounds c) (List.mem_singleton.2 rfl) h hR hd hv hq)
  | .exit id => by
    intro h hR hd hv hq
    simp only [evalCode, Option.some.injEq] at hv; subst hv
    exact wp_exit (hq (.exit id) _ _ _ _ _ (List.mem_singleton.2 rfl) hR h hd)
  | .scope c => by
    intro h hR hd hv hq
    simp only [evalCode] at hv
    refine wp_scope_straight (evalCode_sound he hcl hm rounds c h hR hd hv ?_)
    intro e R' S' E' w' ac' hmem hR' h' hd'
    have := hq e R' S' E' w' ac' hmem hR' h' hd'
    cases e <;> exact this
  | .ret => by
    intro h hR hd hv hq
    simp only [evalCode, Option.some.injEq] at hv; subst hv
    exact wp_ret (hq .ret _ _ _ _ _ (List.mem_singleton.2 rfl) hR h hd)
  | .rangeFunc .. => by
    intro h hR hd hv hq
    simp [evalCode] at hv
  | .goto .. => by
    intro h hR hd hv hq
    simp [evalCode] at hv
  | .refuse .. => by
    intro h hR hd hv hq
    simp [evalCode] at hv

/-! ### a call -/

def aresults (P : Program) (K : Fix) (R : List AVal) (S : St) : List ResultVar → Option (List AVal)
  | [] => some []
  | .tmp t :: l => match R[t]?, aresults P K R S l with
    | some v, some vs => some (v :: vs)
    | _, _ => none
  | .cell t ty :: l => match (R[t]?).bind (aload P K S ty), aresults P K R S l with
    | some v, some vs => some (v :: vs)
    | _, _ => none

theorem aresults_sound {R : List AVal} {tmps : Array Value} (h : Ok K E S X w) (hR : VRs E R tmps.toList) : ∀ {rs : List ResultVar} {vs : List AVal}, aresults P K R S rs = some vs →
    ∃ ys, VRs E vs ys ∧ (rs.mapM (fun
      | .tmp t => pure (tmps.getD t undef)
      | .cell a t => do loadVar t (← asAddr (tmps.getD a undef)) : ResultVar → Sem Value)).run P w = .ok ys w
  | [], vs, hv => by simp only [aresults, Option.some.injEq] at hv; subst hv; exact ⟨[], VRs.nil, by simp⟩
  | .tmp t :: l, vs, hv => by
    simp only [aresults] at hv
    split at hv
    · rename_i v us h1 h2
      simp only [Option.some.injEq] at hv; subst hv
      obtain ⟨ys, g1, g2⟩ := aresults_sound h hR h2
      obtain ⟨x, k1, k2⟩ := hR.get h1
      have : tmps.getD t undef = x := by
        rw [Array.getElem?_toList] at k1
        simp [Array.getD_eq_getD_getElem?, k1]
      exact ⟨x :: ys, VRs.cons k2 g1, by simp only [List.mapM_cons, Sem.run_bind, Sem.run_pure, Result.andThen_ok, this, g2]⟩
    · simp at hv
  | .cell t ty :: l, vs, hv => by
    simp only [aresults] at hv
    split at hv
    · rename_i v us h1 h2
      simp only [Option.some.injEq] at hv; subst hv
      obtain ⟨ys, g1, g2⟩ := aresults_sound h hR h2
      simp only [Option.bind_eq_some_iff] at h1
      obtain ⟨p, hp, hl⟩ := h1
      obtain ⟨x, k1, k2⟩ := hR.get hp
      have : tmps.getD t undef = x := by
        rw [Array.getElem?_toList] at k1
        simp [Array.getD_eq_getD_getElem?, k1]
      obtain ⟨y, j1, j2⟩ := aload_sound (P := P) h k2 hl
      refine ⟨y :: ys, VRs.cons j2 g1, ?_⟩
      have hld : (do loadVar ty (← asAddr x) : Sem Value).run P w = .ok y w := by
        have hx : ∃ ad, x = .pointer (some ad) := by
          unfold aload at hl
          simp only [Option.bind_eq_bind, Option.bind_eq_some_iff] at hl
          obtain ⟨d, _, hl⟩ := hl
          split at hl
          · simp only [VR] at k2; obtain ⟨c, _, rfl⟩ := k2; exact ⟨_, rfl⟩
          · simp only [VR] at k2; exact ⟨_, k2⟩
          · simp at hl
        obtain ⟨ad, rfl⟩ := hx
        simpa [Instr.loadAt, Instr.sureAddr, asAddr] using j1
      simp only [List.mapM_cons, this]
      rw [Sem.run_bind, hld]
      simp only [Result.andThen_ok, Sem.run_bind, g2, Sem.run_pure]
    · simp at hv

def packR : List AVal → AVal
  | [v] => v
  | vs => .tuple vs

theorem packR_sound {vs : List AVal} {ys : List Value} (h : VRs E vs ys) : VR E (packR vs) (if h : ys.toArray.size = 1 then ys.toArray[0] else .tuple ys.toArray) := by
  cases vs with
  | nil => simp only [VRs] at h; subst h; simp only [packR, VR]; exact ⟨[], VRs.nil, rfl⟩
  | cons a l =>
    cases l with
    | nil => obtain ⟨x, rfl, hx⟩ := h.one; simpa [packR] using hx
    | cons b l =>
      have hl := h.length
      simp only [packR, VR]
      refine ⟨ys, h, ?_⟩
      simp only [List.length_cons] at hl
      rw [dif_neg (by simp; omega)]

def evalCall (P : Program) (K : Fix) (ext oracle : CallF) (rounds : Nat) : Nat → CallF
  | 0 => fun _ _ _ => none
  | d + 1 => fun f args S =>
    match oracle f args S with
    | some outs => some outs
    | none =>
      match P.funcs[f]? with
      | none => none
      | some fn =>
        match fn.body with
        | none => none
        | some c =>
          ((evalCode P K ext (evalCall P K ext oracle rounds d) rounds c (args ++ List.replicate (fn.ntmps - args.length) uv) S).bind (bindAll fun p =>
            match p.1 with
            | .exit _ => none
            | _ => (aresults P K p.2.1 p.2.2 fn.results.toList).map fun vs => [(packR vs, p.2.2)])).map merge

theorem VRs.replicate (m : Nat) : VRs E (List.replicate m uv) (List.replicate m undef) := by
  induction m with
  | zero => exact VRs.nil
  | succ m ih => simp only [List.replicate_succ]; exact VRs.cons (by simp only [uv, VR]) ih

theorem evalCall_sound {ext oracle : CallF} (he : ExtOk P K ext) (ho : CallOk P K oracle) (hm : P.follows .mixedOrders = true) (rounds : Nat) : ∀ d, CallOk P K (evalCall P K ext oracle rounds d)
  | 0 => by intro f args S outs hv; simp [evalCall] at hv
  | d + 1 => by
    intro f args S outs hv E X w xs h hxs
    simp only [evalCall] at hv
    split at hv
    · rename_i os hos
      simp only [Option.some.injEq] at hv; subst hv
      exact ho f args S os hos E X w xs h hxs
    · split at hv
      · simp at hv
      · rename_i fn hf
        split at hv
        · simp at hv
        · rename_i c hb
          simp only [Option.map_eq_some_iff, Option.bind_eq_some_iff] at hv
          obtain ⟨os, ⟨mid, hmid, hos⟩, rfl⟩ := hv
          refine calls_of_wp hf hb ?_
          have hlen := hxs.length
          refine evalCode_sound he (evalCall_sound he ho hm rounds d) hm rounds c h (R := args ++ List.replicate (fn.ntmps - args.length) uv) ?_ rfl hmid ?_
          · simp only [Array.toList_append, Array.toList_replicate]
            rw [hlen]
            simpa using hxs.append (VRs.replicate (fn.ntmps - xs.length))
          · intro e R' S' E' w' ac' hmem hR' h' hd'
            obtain ⟨ys, hy, hsub⟩ := bindAll_mem hos hmem
            have fin : ∀ vs, aresults P K R' S' fn.results.toList = some vs → (packR vs, S') ∈ os →
                ac'.defers = [] ∧ ∃ u, (results fn ac'.tmps).run P w' = .ok u w' ∧ ∃ v2 S2 y2 E2, (v2, S2) ∈ merge os ∧ Ending.returned u = .returned y2 ∧ VR E2 v2 y2 ∧ Ok K E2 S2 X w' := by
              intro vs hvs hin
              obtain ⟨zs, g1, g2⟩ := aresults_sound (P := P) h' hR' hvs
              have hp := packR_sound g1
              have hres : (results fn ac'.tmps).run P w' = .ok (if h : zs.toArray.size = 1 then zs.toArray[0] else .tuple zs.toArray) w' := by
                have g3 := mapM_eq g2
                simp only [Array.toArray_toList] at g3
                unfold results
                rw [Sem.run_bind]
                exact congrArg (fun r => Result.andThen r _) g3
              obtain ⟨v2, S2, E2, m1, m2, m3⟩ := merge_sound h' hp hin
              exact ⟨hd', _, hres, v2, S2, _, E2, m1, rfl, m2, m3⟩
            cases e with
            | normal =>
              simp only [Option.map_eq_some_iff] at hy
              obtain ⟨vs, hvs, rfl⟩ := hy
              exact fin vs hvs (hsub _ (List.mem_singleton.2 rfl))
            | exit id => simp at hy
            | ret =>
              simp only [Option.map_eq_some_iff] at hy
              obtain ⟨vs, hvs, rfl⟩ := hy
              exact fin vs hvs (hsub _ (List.mem_singleton.2 rfl))

end Go.Eng
