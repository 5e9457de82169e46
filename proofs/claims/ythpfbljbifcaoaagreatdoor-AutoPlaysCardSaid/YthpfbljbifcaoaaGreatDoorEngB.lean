/- A machine that runs closed code, part 2 of 4: append, maps, operations in order. Conditions: none. -/
import Derived.Test.YthpfbljbifcaoaaGreatDoorEngA
import Derived.Orders
namespace Go.Eng
open Go.RowKit

variable {P : Program} {K : Fix} {E F : Env} {S S' : St} {X : List (List Value)} {w w' : World} {a b v : AVal} {x y : Value} {t s : TypeId} {l r : List AVal} {xs : List Value} {i j n off f : Nat}

theorem run_storeCells_row {c p : Nat} {e : TypeId} {fz : Nat × Nat} : ∀ (vs : List Value) (i : Nat) (cs : Array Value) (w : World), w.heap[c]? = some (.cells cs e fz) → p + i + vs.length ≤ cs.size →
    (∀ j, p + i ≤ j → j < p + i + vs.length → (fz.1 ≤ j && j < fz.2) = false) → (∀ v ∈ vs, v.oneCell' = true) →
    (storeCells ⟨c, p, none⟩ vs i).run P w = .ok () { w with heap := w.heap.setIfInBounds c (.cells (cs.toList.take (p + i) ++ vs ++ cs.toList.drop (p + i + vs.length)).toArray e fz) }
  | [], i, cs, w, hw, _, _, _ => by
    have hlt := (Array.getElem?_eq_some_iff.1 hw)
    obtain ⟨h1, h2⟩ := hlt
    have e1 : ((cs.toList.take (p + i) ++ [] ++ cs.toList.drop (p + i + ([] : List Value).length)).toArray) = cs := by simp
    rw [e1]
    have e2 : w.heap.setIfInBounds c (.cells cs e fz) = w.heap := by
      apply Array.ext_getElem?
      intro k
      rw [Array.getElem?_setIfInBounds]
      split
      · rename_i hk; subst hk; simp [h1, h2]
      · rfl
    rw [e2]; rfl
  | v :: vs, i, cs, w, hw, hl, hf, h1 => by
    simp only [List.length_cons] at hl hf
    have hc : w.cell? ⟨c, p + i, none⟩ = some cs[p + i] := by simp [World.cell?, hw, show p + i < cs.size by omega]
    have hfr : w.frozen? ⟨c, p + i, none⟩ = false := by simp only [World.frozen?, hw]; exact hf (p + i) (Nat.le_refl _) (by omega)
    have hst : (store ⟨c, p + i, none⟩ v).run P w = .ok () { w with heap := w.heap.setIfInBounds c (.cells (cs.setIfInBounds (p + i) v) e fz) } := by
      rw [run_store _ _ _ _ _ (h1 v (by simp)), hc]
      simp only [hfr, setCell_cells hw]
      simp
    have hlt := (Array.getElem?_eq_some_iff.1 hw).1
    simp only [storeCells, Sem.run_bind, add_plain, hst, Result.andThen_ok]
    rw [run_storeCells_row (e := e) (fz := fz) vs (i + 1) (cs.setIfInBounds (p + i) v) _ (by simp [hlt]) (by simp; omega) (fun j g1 g2 => hf j (by omega) (by omega)) (fun u hu => h1 u (by simp [hu]))]
    simp only [Array.setIfInBounds_setIfInBounds]
    congr 4
    simp only [Array.toList_setIfInBounds, List.length_cons]
    rw [← Nat.add_assoc p i 1, List.take_add_one, List.take_set_of_le (Nat.le_refl _), List.getElem?_set_self (by simp; omega), List.drop_set_of_lt (by omega)]
    simp only [Option.toList_some, List.append_assoc, List.cons_append, List.nil_append]
    rw [show p + i + (vs.length + 1) = p + i + 1 + vs.length by omega]

theorem run_append_fits {t t' e ty : TypeId} {inf : TypeInfo} {base : Option Addr} {len cap m : Nat} {new : Array Value} (hu : P.underlying t = some (.slice e))
    (hu' : (∃ e', P.underlying t' = some (.slice e')) ∨ P.underlying t' = some .string) (hi : P.info? e = some inf)
    (hl : (Builtin.lenOf y).run P w = .ok m w) (hn : (Builtin.firstCells inf.size m y).run P w = .ok new w) (hle : len + m ≤ cap)
    (hs : match base with | some a => (storeCells (a.add (len * inf.size)) new.toList).run P w = .ok () w' | none => w' = w) :
    (Builtin.append_ #[t, t'] ty #[.slice base len cap, y]).run P w = .ok (.slice base (len + m) cap) w' := by
  have hsz : ∀ w, (sizeOf e).run P w = .ok inf.size w := fun _ => run_sizeOf' hi
  rcases hu' with ⟨e', hu'⟩ | hu'
  all_goals
    simp only [Builtin.append_, List.getElem?_toArray, List.getElem?_cons_zero, List.getElem?_cons_succ, Sem.run_bind, run_underlying' hu, Result.andThen_ok, hsz, run_underlying' hu', Sem.run_pure]
    simp only [Bool.false_eq_true, if_false, Sem.run_bind, hl, Result.andThen_ok, hle, Bool.not_false, if_true, hn]
    cases base with
    | some a => simp only at hs; simp only [Sem.run_bind, hs, Result.andThen_ok, Sem.run_pure]
    | none => simp only at hs; subst hs; simp only [Sem.run_pure]

def srcOk (P : Program) (t : TypeId) : Bool :=
  match P.underlying t with
  | some (.slice _) => true
  | some .string => true
  | _ => false

theorem srcOk_sound (h : srcOk P t = true) : (∃ e', P.underlying t = some (.slice e')) ∨ P.underlying t = some .string := by
  unfold srcOk at h
  split at h
  · rename_i e he; exact .inl ⟨e, he⟩
  · rename_i he; exact .inr he
  · cases h

/-- append, where it grows. -/
def agrow (S : St) (e : TypeId) (inf : TypeInfo) (need : Nat) (cs : List AVal) : Option (AVal × St) :=
  if need ≤ 1048576 ∧ (2 * need + 192) * inf.bytes ≤ 281474976710656 then
    some (.slice S.heap.length 0 need 0 (some S.caps.length), { S with heap := S.heap ++ [.cells cs e (0, 0) (some (S.caps.length, inf.size))], caps := S.caps ++ [need] })
  else none

theorem agrow_sound {t t' e ty : TypeId} {inf : TypeInfo} {z : Value} {base : Option Addr} {len cap m : Nat} {old new : List Value} {ol nw : List AVal} (h : Ok K E S X w) (hu : P.underlying t = some (.slice e))
    (hu' : srcOk P t' = true) (hi : P.info? e = some inf) (hz : still P (zeroValue e) = some z) (hzs : z.cells.size = inf.size)
    (hl : ∀ d, (Builtin.lenOf y).run P { w with drawn := d } = .ok m { w with drawn := d }) (ho : ∀ d, (Builtin.firstCells inf.size len (.slice base len cap)).run P { w with drawn := d } = .ok old.toArray { w with drawn := d })
    (hn : ∀ d, (Builtin.firstCells inf.size m y).run P { w with drawn := d } = .ok new.toArray { w with drawn := d }) (hgt : cap < len + m) (rol : VRs E ol old) (rnw : VRs E nw new) (lol : ol.length = len * inf.size) (lnw : nw.length = m * inf.size)
    (hv : agrow S e inf (len + m) (ol ++ nw) = some (v, S')) :
    ∃ y' w' E', (Builtin.append_ #[t, t'] ty #[.slice base len cap, y]).run P w = .ok y' w' ∧ VR E' v y' ∧ Ok K E' S' X w' ∧ E.Le E' := by
  unfold agrow at hv
  split at hv
  · rename_i hh
    simp only [Option.some.injEq, Prod.mk.injEq] at hv; obtain ⟨rfl, rfl⟩ := hv
    obtain ⟨k, hk, hkm, hr⟩ := run_append_grow (P := P) (ty := ty) hu (srcOk_sound hu') hi (still_run hz) hl ho hn hgt hh.1 hh.2
    obtain ⟨E1, l1, c1, c2, o1⟩ := (h.drawn (w.drawn + 1)).newcap hk hkm
    have hob : OR E1 (.cells (ol ++ nw) e (0, 0) (some (S.caps.length, inf.size))) (.cells (old.toArray ++ new.toArray ++ Builtin.zeroCells z.cells (k - (len + m))) e) := by
      refine ⟨old ++ new, (Builtin.zeroCells z.cells (k - (len + m))).toList, k, (VRs.mono l1 _ _ rol).append (VRs.mono l1 _ _ rnw), c1, ?_, ?_⟩
      · have e1 := rol.length
        have e2 := rnw.length
        have e3 : (Builtin.zeroCells z.cells (k - (len + m))).size = (k - (len + m)) * inf.size := by simp [Builtin.zeroCells, hzs]
        simp only [List.length_append, Array.length_toList, e3, ← e1, ← e2, lol, lnw, ← Nat.add_mul]
        congr 1; omega
      · simp
    obtain ⟨E2, l2, b2, o2⟩ := o1.alloc hob
    refine ⟨_, _, E2, hr, ?_, o2, l1.trans l2⟩
    simp only [VR]
    exact ⟨w.heap.size, k, b2, ⟨k, l2.kap _ _ c1, by omega, rfl⟩, rfl⟩
  · simp at hv

/-- The row behind an append in place. -/
def arow (l : List AVal) (op : Option (Nat × Nat)) (size off len q : Nat) (c : Option Nat) (cs : List AVal) : Option (List AVal) :=
  if off + len * size + cs.length ≤ l.length then some (l.take (off + len * size) ++ cs ++ l.drop (off + len * size + cs.length))
  else match op, c with
    | some (qo, so), some qq => if qo = qq ∧ so = size ∧ off = q * size ∧ off + len * size ≤ l.length then some (l.take (off + len * size) ++ cs) else none
    | _, _ => none

/-- append, where there is room. -/
def afit (S : St) (size b off len q : Nat) (c : Option Nat) (m : Nat) (cs : List AVal) : Option (AVal × St) :=
  match S.heap[b]? with
  | some (.cells l e fz op) =>
    if cs.all AVal.one = true ∧ (fz.2 ≤ fz.1 ∨ off + len * size + cs.length ≤ fz.1 ∨ fz.2 ≤ off + len * size) then
      match arow l op size off len q c cs with
      | some l' =>
        match c with
        | none => some (.slice b off (len + m) q none, { S with heap := S.heap.set b (.cells l' e fz op) })
        | some qq =>
          match S.caps[qq]? with
          | some lo => some (.slice b off (len + m) q (some qq), { S with heap := S.heap.set b (.cells l' e fz op), caps := S.caps.set qq (max lo (len + m + q)) })
          | none => none
      | none => none
    else none
  | _ => none

theorem VRs.allOne {cs : List AVal} {vs : List Value} (h : VRs E cs vs) (ho : cs.all AVal.one = true) : ∀ v ∈ vs, v.oneCell' = true := by
  induction cs generalizing vs with
  | nil => simp only [VRs] at h; subst h; simp
  | cons c cs ih =>
    simp only [VRs] at h; obtain ⟨x, r, h1, h2, rfl⟩ := h
    simp only [List.all_cons, Bool.and_eq_true] at ho
    intro v hv
    rcases List.mem_cons.1 hv with rfl | hv
    · exact h1.one ho.1
    · exact ih h2 ho.2 v hv

theorem afit_sound {b d q cap m size len : Nat} {c : Option Nat} {cs : List AVal} {vs : List Value} (h : Ok K E S X w) (hd : E.rho b = some d) (hc : CapR E q c cap) (hle : len + m ≤ cap) (hcs : VRs E cs vs) (hlen : cs.length = m * size)
    (hv : afit S size b off len q c m cs = some (v, S')) :
    ∃ w', (storeCells ((⟨d, off, none⟩ : Addr).add (len * size)) vs).run P w = .ok () w' ∧ VR E v (.slice (some ⟨d, off, none⟩) (len + m) cap) ∧ Ok K E S' X w' := by
  unfold afit at hv
  split at hv
  · rename_i l e fz op ho
    split at hv
    · rename_i hh
      obtain ⟨hone, hfz⟩ := hh
      have hvl := hcs.length
      have hones := hcs.allOne hone
      obtain ⟨d', u, g1, g2, g3, g4⟩ := h.obj b _ ho
      rw [hd] at g1; obtain rfl := Option.some.inj g1
      have hstore : ∀ (cs0 : Array Value), u = .cells cs0 e fz → off + len * size + vs.length ≤ cs0.size →
          (storeCells ((⟨d, off, none⟩ : Addr).add (len * size)) vs).run P w = .ok () { w with heap := w.heap.setIfInBounds d (.cells (cs0.toList.take (off + len * size) ++ vs ++ cs0.toList.drop (off + len * size + vs.length)).toArray e fz) } := by
        intro cs0 hu hsz
        subst hu
        rw [add_plain]
        have := run_storeCells_row (P := P) (p := off + len * size) vs 0 cs0 w g3 (by simpa using hsz) (fun j j1 j2 => by
          rw [hvl] at hfz
          simp only [Nat.add_zero] at j1 j2
          have : ¬ (fz.1 ≤ j ∧ j < fz.2) := by omega
          simp only [Bool.and_eq_false_iff, decide_eq_false_iff_not]
          omega) hones
        simpa using this
      have hnew : ∀ l', arow l op size off len q c cs = some l' →
          ∃ w', (storeCells ((⟨d, off, none⟩ : Addr).add (len * size)) vs).run P w = .ok () w' ∧ Ok K E { S with heap := S.heap.set b (.cells l' e fz op) } X w' := by
        intro l' hl'
        unfold arow at hl'
        split at hl'
        · rename_i hin
          simp only [Option.some.injEq] at hl'; subst hl'
          cases op with
          | none =>
            obtain ⟨xs, r, hu⟩ := g4
            have e1 := r.length
            refine ⟨_, hstore xs.toArray hu (by simp; omega), h.put hd ⟨_, ((r.take _).append hcs).append (r.drop _), ?_⟩⟩
            simp [hvl]
          | some qs =>
            obtain ⟨qo, so⟩ := qs
            obtain ⟨xs, tl, nn, r, k1, k2, hu⟩ := g4
            have e1 := r.length
            refine ⟨_, hstore (xs ++ tl).toArray hu (by simp; omega), h.put hd ⟨_, tl, nn, ((r.take _).append hcs).append (r.drop _), k1, ?_, ?_⟩⟩
            · simp only [List.length_append, List.length_take, List.length_drop]; omega
            · have a1 : off + len * size ≤ xs.length := by omega
              have a2 : off + len * size + vs.length ≤ xs.length := by omega
              simp [hvl, List.take_append_of_le_length a1, List.drop_append_of_le_length a2]
        · rename_i hin
          split at hl'
          · rename_i qo so qq
            split at hl'
            · rename_i hq
              obtain ⟨rfl, rfl, hoff, hp⟩ := hq
              simp only [Option.some.injEq] at hl'; subst hl'
              obtain ⟨xs, tl, nn, r, k1, k2, hu⟩ := g4
              have e1 := r.length
              obtain ⟨n2, j1, j2, j3⟩ := hc
              rw [k1] at j1; obtain rfl := Option.some.inj j1
              have hmul : (q + len + m) * so ≤ nn * so := Nat.mul_le_mul_right _ (by omega)
              have hexp : (q + len + m) * so = q * so + len * so + m * so := by rw [Nat.add_mul, Nat.add_mul]
              have htot : off + len * so + vs.length ≤ xs.length + tl.length := by omega
              refine ⟨_, hstore (xs ++ tl).toArray hu (by simp; omega), h.put hd ⟨_, (xs ++ tl).drop (off + len * so + vs.length), nn, (r.take _).append hcs, k1, ?_, ?_⟩⟩
              · simp only [List.length_append, List.length_take, List.length_drop]; omega
              · have a1 : off + len * so ≤ xs.length := by omega
                simp [List.take_append_of_le_length a1]
            · simp at hl'
          · simp at hl'
      split at hv
      · rename_i l' hl'
        obtain ⟨w', s1, s2⟩ := hnew l' hl'
        split at hv
        · simp only [Option.some.injEq, Prod.mk.injEq] at hv; obtain ⟨rfl, rfl⟩ := hv
          exact ⟨w', s1, by simp only [VR]; exact ⟨d, cap, hd, hc, rfl⟩, s2⟩
        · rename_i qq
          split at hv
          · rename_i lo hlo
            simp only [Option.some.injEq, Prod.mk.injEq] at hv; obtain ⟨rfl, rfl⟩ := hv
            obtain ⟨n2, j1, j2, j3⟩ := hc
            obtain ⟨n3, i1, i2, _⟩ := h.lb _ _ hlo
            rw [j1] at i1; obtain rfl := Option.some.inj i1
            refine ⟨w', s1, by simp only [VR]; exact ⟨d, cap, hd, ⟨n2, j1, j2, j3⟩, rfl⟩, s2.raise j1 (by omega)⟩
          · simp at hv
      · simp at hv
    · simp at hv
  · simp at hv

/-- append. -/
def aappend (P : Program) (S : St) (ats : List TypeId) (s x : AVal) : Option (List (AVal × St)) :=
  match ats with
  | [t, t'] =>
    match P.underlying t with
    | some (.slice e) =>
      match P.info? e, still P (zeroValue e) with
      | some inf, some z =>
        if srcOk P t' = true ∧ z.cells.size = inf.size then
          match asrc S inf.size x with
          | none => none
          | some (m, cs) =>
            match s with
            | .lit (.slice none 0 0) => if m = 0 then some [(s, S)] else (agrow S e inf (0 + m) ([] ++ cs)).map fun o => [o]
            | .slice b off len q c =>
              match asrc S inf.size (.slice b off len q c) with
              | none => none
              | some (_, old) =>
                if capGe S q c (len + m) = true then (afit S inf.size b off len q c m cs).map fun o => [o]
                else match c with
                  | none => (agrow S e inf (len + m) (old ++ cs)).map fun o => [o]
                  | some _ => match afit S inf.size b off len q c m cs, agrow S e inf (len + m) (old ++ cs) with
                    | some o1, some o2 => some [o1, o2]
                    | _, _ => none
            | _ => none
        else none
      | _, _ => none
    | _ => none
  | _ => none

theorem aappend_sound {ats : Array TypeId} {ty : TypeId} {u : AVal} {p : Value} {outs : List (AVal × St)} (h : Ok K E S X w) (ha : VR E a p) (hu : VR E u x) (hv : aappend P S ats.toList a u = some outs) :
    ∃ v S' y' w' E', (v, S') ∈ outs ∧ (Builtin.append_ ats ty #[p, x]).run P w = .ok y' w' ∧ VR E' v y' ∧ Ok K E' S' X w' ∧ E.Le E' := by
  unfold aappend at hv
  split at hv
  · rename_i t t' hats
    have hats : ats = #[t, t'] := by rw [← hats]
    subst hats
    split at hv
    · rename_i e hut
      split at hv
      · rename_i inf z hi hz
        split at hv
        · rename_i hh
          obtain ⟨hsrc, hzs⟩ := hh
          split at hv
          · simp at hv
          · rename_i m cs hcs
            obtain ⟨vs, rvs, hl0, hn0, hlen⟩ := asrc_sound (P := P) h hu hcs
            have hvl : (vs.take (m * inf.size)) = vs := by rw [List.take_of_length_le]; rw [← rvs.length, hlen]; exact Nat.le_refl _
            have hnd : ∀ d, (Builtin.firstCells inf.size m x).run P { w with drawn := d } = .ok vs.toArray { w with drawn := d } := fun d => by
              have := hn0 d m (Nat.le_refl _); rwa [hvl] at this
            have hlw : (Builtin.lenOf x).run P w = .ok m w := hl0 w.drawn
            have hnw : (Builtin.firstCells inf.size m x).run P w = .ok vs.toArray w := hnd w.drawn
            split at hv
            · simp only [VR] at ha; subst ha
              split at hv
              · rename_i hm; subst hm
                simp only [Option.some.injEq] at hv; subst hv
                refine ⟨_, S, .slice none 0 0, w, E, List.mem_singleton.2 rfl, ?_, by simp only [VR], h, .refl E⟩
                exact run_append_fits (w' := w) hut (srcOk_sound hsrc) hi hlw hnw (Nat.le_refl _) rfl
              · rename_i hm
                simp only [Option.map_eq_some_iff] at hv
                obtain ⟨⟨v, S'⟩, hg, rfl⟩ := hv
                obtain ⟨y', w', E', g1, g2, g3, g4⟩ := agrow_sound (ty := ty) (len := 0) (cap := 0) (base := none) (old := []) (ol := []) h hut hsrc hi hz hzs hl0 (fun d => by simp [Builtin.firstCells]) hnd (by omega) VRs.nil rvs (by simp) hlen hg
                exact ⟨v, S', y', w', E', List.mem_singleton.2 rfl, g1, g2, g3, g4⟩
            · rename_i b off len q c
              simp only [VR] at ha; obtain ⟨d, cap, hd, hcap, rfl⟩ := ha
              split at hv
              · simp at hv
              · rename_i no old hold
                have hsv : VR E (.slice b off len q c) (.slice (some ⟨d, off, none⟩) len cap) := by simp only [VR]; exact ⟨d, cap, hd, hcap, rfl⟩
                obtain ⟨ovs, ro, hlo, hno, hleno⟩ := asrc_sound (P := P) h hsv hold
                have hnl : no = len := by
                  have := hlo w.drawn
                  simp [Builtin.lenOf] at this; exact this.symm
                subst hnl
                have hol : ∀ dd, (Builtin.firstCells inf.size no (.slice (some ⟨d, off, none⟩) no cap)).run P { w with drawn := dd } = .ok ovs.toArray { w with drawn := dd } := fun dd => by
                  have := hno dd no (Nat.le_refl _)
                  rwa [List.take_of_length_le (by rw [← ro.length, hleno]; exact Nat.le_refl _)] at this
                have hfit : ∀ {v : AVal} {S' : St}, no + m ≤ cap → afit S inf.size b off no q c m cs = some (v, S') →
                    ∃ y' w' E', (Builtin.append_ #[t, t'] ty #[.slice (some ⟨d, off, none⟩) no cap, x]).run P w = .ok y' w' ∧ VR E' v y' ∧ Ok K E' S' X w' ∧ E.Le E' := by
                  intro v S' hle hf
                  obtain ⟨w', s1, s2, s3⟩ := afit_sound (P := P) h hd hcap hle rvs hlen hf
                  exact ⟨_, w', E, run_append_fits hut (srcOk_sound hsrc) hi hlw hnw hle s1, s2, s3, .refl E⟩
                have hgr : ∀ {v : AVal} {S' : St}, cap < no + m → agrow S e inf (no + m) (old ++ cs) = some (v, S') →
                    ∃ y' w' E', (Builtin.append_ #[t, t'] ty #[.slice (some ⟨d, off, none⟩) no cap, x]).run P w = .ok y' w' ∧ VR E' v y' ∧ Ok K E' S' X w' ∧ E.Le E' := by
                  intro v S' hlt hg
                  exact agrow_sound (ty := ty) h hut hsrc hi hz hzs hl0 hol hnd hlt ro rvs hleno hlen hg
                split at hv
                · rename_i hc
                  simp only [Option.map_eq_some_iff] at hv
                  obtain ⟨⟨v, S'⟩, hf, rfl⟩ := hv
                  obtain ⟨y', w', E', g1, g2, g3, g4⟩ := hfit (capGe_sound h hcap hc) hf
                  exact ⟨v, S', y', w', E', List.mem_singleton.2 rfl, g1, g2, g3, g4⟩
                · rename_i hc
                  split at hv
                  · simp only [Option.map_eq_some_iff] at hv
                    obtain ⟨⟨v, S'⟩, hg, rfl⟩ := hv
                    have hlt : cap < no + m := by
                      simp only [capGe, decide_eq_true_eq] at hc
                      simp only [CapR] at hcap; omega
                    obtain ⟨y', w', E', g1, g2, g3, g4⟩ := hgr hlt hg
                    exact ⟨v, S', y', w', E', List.mem_singleton.2 rfl, g1, g2, g3, g4⟩
                  · split at hv
                    · rename_i o1 o2 hf hg
                      simp only [Option.some.injEq] at hv; subst hv
                      obtain ⟨v1, S1⟩ := o1
                      obtain ⟨v2, S2⟩ := o2
                      by_cases hle : no + m ≤ cap
                      · obtain ⟨y', w', E', g1, g2, g3, g4⟩ := hfit hle hf
                        exact ⟨v1, S1, y', w', E', by simp, g1, g2, g3, g4⟩
                      · obtain ⟨y', w', E', g1, g2, g3, g4⟩ := hgr (by omega) hg
                        exact ⟨v2, S2, y', w', E', by simp, g1, g2, g3, g4⟩
                    · simp at hv
            · simp at hv
        · simp at hv
      · simp at hv
    · simp at hv
  · simp at hv

end Go.Eng

namespace Go.Eng
open Go.RowKit

variable {P : Program} {K : Fix} {E F : Env} {S S' : St} {X : List (List Value)} {w w' : World} {a b v : AVal} {x y : Value} {t s : TypeId} {l r : List AVal} {xs : List Value} {i j n off f : Nat}

/-! ### the operations that change memory -/

def newVarA (S : St) (t : TypeId) (v : AVal) : AVal × St := (.ptr S.heap.length 0, anew S (.cells v.cells t (0, 0) none))

theorem newVarA_sound (h : Ok K E S X w) (hv : VR E v x) : ∃ y w' E', (do pure (.pointer (some (← newVar t x))) : Sem Value).run P w = .ok y w' ∧ VR E' (newVarA S t v).1 y ∧ Ok K E' (newVarA S t v).2 X w' ∧ E.Le E' := by
  obtain ⟨E', w', g1, g2, g3, g4⟩ := anew_sound (P := P) (o := .cells v.cells t (0, 0) none) (u := .cells x.cells t) h ⟨_, hv.cells, by simp⟩
  exact ⟨.pointer (some ⟨w.heap.size, 0, none⟩), w', E', by simp [newVar, newRow]; exact (Result.ok.inj g1).2, by simp only [VR, newVarA]; exact ⟨_, g3, rfl⟩, g4, g2⟩

/-- Zero cells, so many elements. -/
def azeros (z : Array Value) (k : Nat) : List AVal := ((Array.range k).map (z[· % z.size]!)).toList.map .lit

def abuildSlice (P : Program) (S : St) (t : TypeId) (len : Nat) (ps : List (Nat × AVal)) : Option (AVal × St) :=
  match P.underlying t with
  | some (.slice e) =>
    match P.info? e, still P (zeroValue e) with
    | some inf, some z =>
      if len * inf.size ≤ 65536 then
        match afill (fun i => some (i * inf.size, inf.size)) (azeros (if len * inf.size = 0 then #[] else z.cells) (len * inf.size)) ps with
        | some cs => some (.slice S.heap.length 0 len len none, anew S (.cells cs e (0, 0) none))
        | none => none
      else none
    | _, _ => none
  | _ => none

theorem abuildSlice_sound {len : Nat} {ps : List (Nat × AVal)} {qs : List (Nat × Value)} (h : Ok K E S X w) (hp : PR E ps qs) (hv : abuildSlice P S t len ps = some (v, S')) :
    ∃ y w' E', (Instr.buildSlice t len qs.toArray).run P w = .ok y w' ∧ VR E' v y ∧ Ok K E' S' X w' ∧ E.Le E' := by
  unfold abuildSlice at hv
  split at hv
  · rename_i e hu
    split at hv
    · rename_i inf z hi hz
      split at hv
      · rename_i hle
        split at hv
        · rename_i cs hcs
          simp only [Option.some.injEq, Prod.mk.injEq] at hv; obtain ⟨rfl, rfl⟩ := hv
          obtain ⟨ys, h1, h2⟩ := afill_sound hp (VRs.lits _) hcs
          obtain ⟨E', w', g1, g2, g3, g4⟩ := anew_sound (P := P) (o := .cells cs e (0, 0) none) (u := .cells ys.toArray e) h ⟨_, h2, rfl⟩
          refine ⟨.slice (some ⟨w.heap.size, 0, none⟩) len len, w', E', ?_, by simp only [VR]; exact ⟨_, len, g3, rfl, rfl⟩, g4, g2⟩
          have hng : ¬ (len * inf.size > 2 ^ 24) := by omega
          simp only [Array.toArray_toList] at h1
          simp only [Instr.buildSlice, Sem.run_bind, run_underlying' hu, Result.andThen_ok, run_sizeOf' hi, hng, if_false]
          by_cases h0 : len * inf.size = 0
          · simp only [if_pos h0] at h1 ⊢
            simp only [Sem.run_bind, Sem.run_pure, Result.andThen_ok, h1, newRow, g1]
          · simp only [if_neg h0] at h1 ⊢
            simp only [Sem.run_bind, still_run hz, Sem.run_pure, Result.andThen_ok, h1, newRow, g1]
        · simp at hv
      · simp at hv
    · simp at hv
  · simp at hv

def amakeMap (P : Program) (S : St) (t : TypeId) (r : Option AVal) : Option (AVal × St) :=
  match r with
  | none => some (.map S.heap.length, anew S (.map [] 0))
  | some (.lit (.int _ _)) =>
    match P.underlying t with
    | some (.map _ _) => some (.map S.heap.length, anew S (.map [] 0))
    | _ => none
  | _ => none

theorem amakeMap_sound {r : Option AVal} {u : Option Value} (h : Ok K E S X w) (hr : OptR E r u) (hv : amakeMap P S t r = some (v, S')) :
    ∃ y w' E', (Instr.makeMap t u).run P w = .ok y w' ∧ VR E' v y ∧ Ok K E' S' X w' ∧ E.Le E' := by
  obtain ⟨E', w', g1, g2, g3, g4⟩ := anew_sound (P := P) (o := .map [] 0) (u := .map #[] 0) h ⟨[], by simp only [ER], rfl⟩
  unfold amakeMap at hv
  split at hv
  · simp only [Option.some.injEq, Prod.mk.injEq] at hv; obtain ⟨rfl, rfl⟩ := hv
    cases hr
    exact ⟨.map (some w.heap.size), w', E', by simp [Instr.makeMap]; exact (Result.ok.inj g1).2, by simp only [VR]; exact ⟨_, g3, rfl⟩, g4, g2⟩
  · split at hv
    · rename_i hu
      simp only [Option.some.injEq, Prod.mk.injEq] at hv; obtain ⟨rfl, rfl⟩ := hv
      cases hr with
      | some hr =>
        simp only [VR] at hr; subst hr
        exact ⟨.map (some w.heap.size), w', E', by simp [Instr.makeMap, run_underlying' hu, asInt, asIntOf]; exact (Result.ok.inj g1).2, by simp only [VR]; exact ⟨_, g3, rfl⟩, g4, g2⟩
    · simp at hv
  · simp at hv

def amakeSlice (P : Program) (S : St) (t : TypeId) (l c : AVal) : Option (AVal × St) :=
  match l, c with
  | .lit (.int _ l), .lit (.int _ c) =>
    match P.underlying t with
    | some (.slice e) =>
      match P.info? e, still P (zeroValue e) with
      | some inf, some z =>
        if 0 ≤ IntKind.i64.wrap l ∧ IntKind.i64.wrap l ≤ IntKind.i64.wrap c ∧ (inf.bytes : Int) * IntKind.i64.wrap c ≤ 281474976710656 then
          some (.slice S.heap.length 0 (IntKind.i64.wrap l).toNat (IntKind.i64.wrap c).toNat none,
            anew S (.cells (azeros (if (IntKind.i64.wrap c).toNat * inf.size = 0 then #[] else z.cells) ((IntKind.i64.wrap c).toNat * inf.size)) e (0, 0) none))
        else none
      | _, _ => none
    | _ => none
  | _, _ => none

theorem amakeSlice_sound {p q : AVal} (h : Ok K E S X w) (hl : VR E p x) (hc : VR E q y) (hv : amakeSlice P S t p q = some (v, S')) :
    ∃ y' w' E', (Instr.makeSlice t x y).run P w = .ok y' w' ∧ VR E' v y' ∧ Ok K E' S' X w' ∧ E.Le E' := by
  unfold amakeSlice at hv
  split at hv
  · rename_i k1 l k2 c
    simp only [VR] at hl hc; subst hl; subst hc
    split at hv
    · rename_i e hu
      split at hv
      · rename_i inf z hi hz
        split at hv
        · rename_i hh
          obtain ⟨h1, h2, h3⟩ := hh
          simp only [Option.some.injEq, Prod.mk.injEq] at hv; obtain ⟨rfl, rfl⟩ := hv
          obtain ⟨E', w', g1, g2, g3, g4⟩ := anew_sound (P := P) (o := .cells (azeros (if (IntKind.i64.wrap c).toNat * inf.size = 0 then #[] else z.cells) ((IntKind.i64.wrap c).toNat * inf.size)) e (0, 0) none)
            (u := .cells ((Array.range ((IntKind.i64.wrap c).toNat * inf.size)).map ((if (IntKind.i64.wrap c).toNat * inf.size = 0 then #[] else z.cells)[· % (if (IntKind.i64.wrap c).toNat * inf.size = 0 then #[] else z.cells).size]!)) e) h ⟨_, VRs.lits _, by simp only [Array.toArray_toList]⟩
          refine ⟨.slice (some ⟨w.heap.size, 0, none⟩) _ _, w', E', ?_, by simp only [VR]; exact ⟨_, _, g3, rfl, rfl⟩, g4, g2⟩
          have c1 : ¬ (IntKind.i64.wrap c < 0) := by omega
          have c2 : ¬ ((inf.bytes : Int) * IntKind.i64.wrap c > 2 ^ 48) := by omega
          have c3 : ¬ (IntKind.i64.wrap l < 0) := by omega
          have c4 : ¬ (IntKind.i64.wrap l > IntKind.i64.wrap c) := by omega
          simp only [Instr.makeSlice, Sem.run_bind, run_underlying' hu, Result.andThen_ok, asInt, asIntOf, Sem.run_pure, run_typeInfo' hi, c1, c2, c3, c4, decide_false, Bool.or_self, Bool.false_eq_true, if_false, run_askRoom, run_sizeOf' hi]
          by_cases h0 : (IntKind.i64.wrap c).toNat * inf.size = 0
          · simp only [if_pos h0] at g1 ⊢
            simp only [Sem.run_bind, Sem.run_pure, Result.andThen_ok, newRow, g1]
          · simp only [if_neg h0] at g1 ⊢
            simp only [Sem.run_bind, still_run hz, Sem.run_pure, Result.andThen_ok, newRow, g1]
        · simp at hv
      · simp at hv
    · simp at hv
  · simp at hv

end Go.Eng

namespace Go.Eng
open Go.RowKit

variable {P : Program} {K : Fix} {E F : Env} {S S' : St} {X : List (List Value)} {w w' : World} {a b v : AVal} {x y : Value} {t s : TypeId} {l r : List AVal} {xs : List Value} {i j n off f : Nat}

def acopy (P : Program) (S : St) (ats : List TypeId) (d u : AVal) : Option (AVal × St) :=
  match ats with
  | t :: _ =>
    match P.underlying t with
    | some (.slice e) =>
      match P.info? e with
      | some inf =>
        match asrc S inf.size u with
        | some (m, cs) =>
          match d with
          | .slice b off len _ _ => match astores S b off (cs.take (Nat.min m len * inf.size)) with
            | some S' => some (.lit (goInt (Nat.min m len)), S')
            | none => none
          | .lit (.slice none 0 _) => some (.lit (goInt 0), S)
          | _ => none
        | none => none
      | none => none
    | _ => none
  | _ => none

theorem acopy_sound {ats : Array TypeId} {ty : TypeId} {d u : AVal} {p : Value} (h : Ok K E S X w) (hd : VR E d p) (hu : VR E u x) (hv : acopy P S ats.toList d u = some (v, S')) :
    ∃ y w', (Builtin.copy_ ats ty #[p, x]).run P w = .ok y w' ∧ VR E v y ∧ Ok K E S' X w' := by
  unfold acopy at hv
  split at hv
  · rename_i t rest hats
    have h0 : ats[0]? = some t := by rw [← Array.getElem?_toList, hats]; rfl
    split at hv
    · rename_i e hut
      split at hv
      · rename_i inf hi
        split at hv
        · rename_i m cs hcs
          obtain ⟨vs, rvs, hl0, hn0, hlen⟩ := asrc_sound (P := P) h hu hcs
          have hlw : (Builtin.lenOf x).run P w = .ok m w := hl0 w.drawn
          have hsz : (sizeOf e).run P w = .ok inf.size w := run_sizeOf' hi
          split at hv
          · rename_i b off len q c
            simp only [VR] at hd; obtain ⟨dd, cap, hdd, hcap, rfl⟩ := hd
            have hnw : (Builtin.firstCells inf.size (Nat.min m len) x).run P w = .ok (vs.take (Nat.min m len * inf.size)).toArray w := hn0 w.drawn _ (Nat.min_le_left _ _)
            split at hv
            · rename_i S1 hst
              simp only [Option.some.injEq, Prod.mk.injEq] at hv; obtain ⟨rfl, rfl⟩ := hv
              obtain ⟨w', g1, g2⟩ := astores_sound (P := P) (off := off) (i := 0) h hdd (rvs.take (Nat.min m len * inf.size)) (by simpa using hst)
              refine ⟨goInt (Nat.min m len), w', ?_, by simp only [VR], g2⟩
              simp only [Builtin.copy_, h0, List.getElem?_toArray, List.getElem?_cons_zero, List.getElem?_cons_succ, Sem.run_bind, run_underlying' hut, Result.andThen_ok, hlw, hsz, hnw, g1, Sem.run_pure]
            · simp at hv
          · simp only [VR] at hd; subst hd
            simp only [Option.some.injEq, Prod.mk.injEq] at hv; obtain ⟨rfl, rfl⟩ := hv
            have hnw : (Builtin.firstCells inf.size (Nat.min m 0) x).run P w = .ok (vs.take (Nat.min m 0 * inf.size)).toArray w := hn0 w.drawn _ (Nat.min_le_left _ _)
            refine ⟨goInt 0, w, ?_, by simp only [VR], h⟩
            simp only [Builtin.copy_, h0, List.getElem?_toArray, List.getElem?_cons_zero, List.getElem?_cons_succ, Sem.run_bind, run_underlying' hut, Result.andThen_ok, hlw, hsz, hnw, Sem.run_pure]
            simp
          · simp at hv
        · simp at hv
      · simp at hv
    · simp at hv
  · simp at hv

def aclear (P : Program) (S : St) (ats : List TypeId) (d : AVal) : Option St :=
  match ats with
  | t :: _ =>
    match P.underlying t, d with
    | some _, .lit (.slice none _ _) => some S
    | some _, .lit (.map none) => some S
    | some _, .slice _ _ 0 _ _ => some S
    | some (.slice e), .slice b off len _ _ =>
      match still P (zeroValue e) with
      | some z => astores S b off ((Builtin.zeroCells z.cells len).toList.map .lit)
      | none => none
    | some _, .map m =>
      match S.heap[m]? with
      | some (.map _ clock) => some { S with heap := S.heap.set m (.map [] clock) }
      | _ => none
    | _, _ => none
  | _ => none

theorem aclear_sound {ats : Array TypeId} {ty : TypeId} {d : AVal} {p : Value} (h : Ok K E S X w) (hd : VR E d p) (hv : aclear P S ats.toList d = some S') :
    ∃ w', (Builtin.clear_ ats ty #[p]).run P w = .ok (.tuple #[]) w' ∧ Ok K E S' X w' := by
  unfold aclear at hv
  split at hv
  · rename_i t rest hats
    have h0 : ats[0]? = some t := by rw [← Array.getElem?_toList, hats]; rfl
    split at hv
    · rename_i dd c k hut
      simp only [VR] at hd; subst hd
      simp only [Option.some.injEq] at hv; subst hv
      exact ⟨w, by simp [Builtin.clear_, h0, run_underlying' hut], h⟩
    · rename_i dd hut
      simp only [VR] at hd; subst hd
      simp only [Option.some.injEq] at hv; subst hv
      exact ⟨w, by simp [Builtin.clear_, h0, run_underlying' hut], h⟩
    · rename_i dd b off q c hut
      simp only [VR] at hd; obtain ⟨e, cap, he, hcap, rfl⟩ := hd
      simp only [Option.some.injEq] at hv; subst hv
      exact ⟨w, by simp [Builtin.clear_, h0, run_underlying' hut], h⟩
    · rename_i e b off len q c hne hut
      simp only [VR] at hd; obtain ⟨dd, cap, hdd, hcap, rfl⟩ := hd
      split at hv
      · rename_i z hz
        obtain ⟨w', g1, g2⟩ := astores_sound (P := P) (off := off) (i := 0) h hdd (VRs.lits _) (by simpa using hv)
        refine ⟨w', ?_, g2⟩
        cases len with
        | zero => exact absurd rfl hne
        | succ len =>
          simp [Builtin.clear_, h0, run_underlying' hut, still_run hz]
          rw [g1]; rfl
      · simp at hv
    · rename_i dd m hut
      simp only [VR] at hd; obtain ⟨c, hc, rfl⟩ := hd
      split at hv
      · rename_i es clock ho
        simp only [Option.some.injEq] at hv; subst hv
        obtain ⟨ms, g1, g2⟩ := h.mapAt hc ho
        refine ⟨_, ?_, h.put (o := .map [] clock) (u := .map #[] clock) hc ⟨[], by simp only [ER], rfl⟩⟩
        simp [Builtin.clear_, h0, run_underlying' hut, run_getObj_map g2, run_setObj_map g2]
      · simp at hv
    · simp at hv
  · simp at hv

end Go.Eng

namespace Go.Eng
open Go.RowKit

variable {P : Program} {K : Fix} {E F : Env} {S S' : St} {X : List (List Value)} {w w' : World} {a b v : AVal} {x y : Value} {t s : TypeId} {l r : List AVal} {xs : List Value} {i j n off f : Nat}

def arange (P : Program) (S : St) (t : TypeId) (a : AVal) : Option (AVal × St) :=
  match P.underlying t, a with
  | some .string, .lit (.string s) => some (.ptr S.heap.length 0, anew S (.raw (.stringIter s 0)))
  | some (.map _ _), .lit (.map none) => some (.ptr S.heap.length 0, anew S (.iter none 0 [] 0))
  | some (.map _ _), .map m =>
    match S.heap[m]? with
    | some (.map _ clock) => some (.ptr S.heap.length 0, anew S (.iter (some m) clock [] clock))
    | _ => none
  | _, _ => none

theorem arange_sound (h : Ok K E S X w) (ha : VR E a x) (hv : arange P S t a = some (v, S')) :
    ∃ y w' E', (Instr.range t x).run P w = .ok y w' ∧ VR E' v y ∧ Ok K E' S' X w' ∧ E.Le E' := by
  unfold arange at hv
  split at hv
  · rename_i st hu
    simp only [VR] at ha; subst ha
    simp only [Option.some.injEq, Prod.mk.injEq] at hv; obtain ⟨rfl, rfl⟩ := hv
    obtain ⟨E', w', g1, g2, g3, g4⟩ := anew_sound (P := P) (o := .raw (.stringIter st 0)) (u := .stringIter st 0) h rfl
    exact ⟨.pointer (some ⟨w.heap.size, 0, none⟩), w', E', by simp [Instr.range, run_underlying' hu]; exact (Result.ok.inj g1).2, by simp only [VR]; exact ⟨_, g3, rfl⟩, g4, g2⟩
  · rename_i hu
    simp only [VR] at ha; subst ha
    simp only [Option.some.injEq, Prod.mk.injEq] at hv; obtain ⟨rfl, rfl⟩ := hv
    obtain ⟨E', w', g1, g2, g3, g4⟩ := anew_sound (P := P) (o := .iter none 0 [] 0) (u := .mapIter none 0 #[] 0) h ⟨none, rfl, rfl⟩
    exact ⟨.pointer (some ⟨w.heap.size, 0, none⟩), w', E', by simp [Instr.range, run_underlying' hu]; exact (Result.ok.inj g1).2, by simp only [VR]; exact ⟨_, g3, rfl⟩, g4, g2⟩
  · rename_i m hu
    simp only [VR] at ha; obtain ⟨c, hc, rfl⟩ := ha
    split at hv
    · rename_i es clock ho
      obtain ⟨ms, k1, k2⟩ := h.mapAt hc ho
      simp only [Option.some.injEq, Prod.mk.injEq] at hv; obtain ⟨rfl, rfl⟩ := hv
      obtain ⟨E', w', g1, g2, g3, g4⟩ := anew_sound (P := P) (o := .iter (some m) clock [] clock) (u := .mapIter (some c) clock #[] clock) h ⟨some c, ⟨c, hc, rfl⟩, rfl⟩
      exact ⟨.pointer (some ⟨w.heap.size, 0, none⟩), w', E', by simp [Instr.range, run_underlying' hu, run_getObj_map k2]; exact (Result.ok.inj g1).2, by simp only [VR]; exact ⟨_, g3, rfl⟩, g4, g2⟩
    · simp at hv
  · simp at hv

theorem run_getObj_iter {m : Nat} {c : Option Nat} {q : Nat} {u : Array Nat} {z : Nat} (h : w.heap[m]? = some (.mapIter c q u z)) : (getObj m).run P w = .ok (.mapIter c q u z) w := by
  simp [getObj, Sem.run, h]
theorem run_setObj_iter {m : Nat} {c : Option Nat} {q : Nat} {u : Array Nat} {z : Nat} {o : Obj} (h : w.heap[m]? = some (.mapIter c q u z)) : (setObj m o).run P w = .ok () { w with heap := w.heap.setIfInBounds m o } := by
  simp [setObj, Sem.run, h]
theorem run_getObj_siter {m : Nat} {s : ByteArray} {q : Nat} (h : w.heap[m]? = some (.stringIter s q)) : (getObj m).run P w = .ok (.stringIter s q) w := by
  simp [getObj, Sem.run, h]
theorem run_setObj_siter {m : Nat} {s : ByteArray} {q : Nat} {o : Obj} (h : w.heap[m]? = some (.stringIter s q)) : (setObj m o).run P w = .ok () { w with heap := w.heap.setIfInBounds m o } := by
  simp [setObj, Sem.run, h]

/-- What may come next of a map's entries. -/
def cands (es : List AEnt) (since : Nat) (seen : List Nat) : List (Option AEnt) :=
  let left := es.filter fun e => !seen.contains e.born
  let old := left.filter fun e => e.born < since
  let new := left.filter fun e => e.born ≥ since
  (if old.isEmpty then [none] else []) ++ (old ++ new).map some

theorem ER.filter {es : List AEnt} {ms : List MapEntry} {p : Nat → Bool} (h : ER E es ms) : ER E (es.filter fun e => p e.born) (ms.filter fun e => p e.born) := by
  induction es generalizing ms with
  | nil => simp only [ER] at h; subst h; simp [ER]
  | cons e es ih =>
    simp only [ER] at h; obtain ⟨m, r, h1, h2, h3, h4, rfl⟩ := h
    simp only [List.filter_cons, h3]
    split
    · simp only [ER]; exact ⟨_, _, h1, h2, h3, ih h4, rfl⟩
    · exact ih h4

theorem ER.append {es fs : List AEnt} {ms ns : List MapEntry} (h : ER E es ms) (k : ER E fs ns) : ER E (es ++ fs) (ms ++ ns) := by
  induction es generalizing ms with
  | nil => simp only [ER] at h; subst h; simpa using k
  | cons e es ih =>
    simp only [ER] at h; obtain ⟨m, r, h1, h2, h3, h4, rfl⟩ := h
    simp only [List.cons_append, ER]; exact ⟨_, _, h1, h2, h3, ih h4, rfl⟩

theorem ER.allBorn {es : List AEnt} {ms : List MapEntry} {p : Nat → Bool} (h : ER E es ms) : (ms.all fun e => p e.born) = es.all fun e => p e.born := by
  induction es generalizing ms with
  | nil => simp only [ER] at h; subst h; rfl
  | cons e es ih =>
    simp only [ER] at h; obtain ⟨m, r, h1, h2, h3, h4, rfl⟩ := h
    simp only [List.all_cons, h3, ih h4]

theorem ER.isEmptyL {es : List AEnt} {ms : List MapEntry} (h : ER E es ms) : ms.isEmpty = es.isEmpty := by
  have := h.length
  cases es <;> cases ms <;> simp_all

def ccands (ms : List MapEntry) (since : Nat) (seen : List Nat) : List (Option MapEntry) :=
  let left := ms.filter fun e => !seen.contains e.born
  let old := left.filter fun e => decide (e.born < since)
  let new := left.filter fun e => decide (e.born ≥ since)
  (if old.isEmpty then [none] else []) ++ (old ++ new).map some

theorem ccands_ne (ms : List MapEntry) (since : Nat) (seen : List Nat) : 0 < (ccands ms since seen).length := by
  simp only [ccands]
  split
  · simp
  · rename_i h
    have : (List.filter (fun e => decide (e.born < since)) (List.filter (fun e => !seen.contains e.born) ms)) ≠ [] := by simpa [List.isEmpty_iff] using h
    have := List.length_pos_iff.2 this
    simp only [List.nil_append, List.length_map, List.length_append]; omega

theorem cands_rel {es : List AEnt} {ms : List MapEntry} (h : ER E es ms) (since : Nat) (seen : List Nat) {k : Nat} {cm : Option MapEntry} (hk : (ccands ms since seen)[k]? = some cm) :
    ∃ ce, (cands es since seen)[k]? = some ce ∧ ((ce = none ∧ cm = none) ∨ ∃ e m, ce = some e ∧ cm = some m ∧ VR E e.key m.key ∧ VR E e.val m.val ∧ m.born = e.born) := by
  have hleft : ER E (es.filter fun e => !seen.contains e.born) (ms.filter fun e => !seen.contains e.born) := h.filter (p := fun b => !seen.contains b)
  have hold := hleft.filter (p := fun b => decide (b < since))
  have hnew := hleft.filter (p := fun b => decide (b ≥ since))
  have hall := hold.append hnew
  have hemp := hold.isEmptyL
  have hmap : ∀ {es : List AEnt} {ms : List MapEntry} {k : Nat} {cm : Option MapEntry}, ER E es ms → (ms.map some)[k]? = some cm → ∃ ce, (es.map some)[k]? = some ce ∧ ((ce = none ∧ cm = none) ∨ ∃ e m, ce = some e ∧ cm = some m ∧ VR E e.key m.key ∧ VR E e.val m.val ∧ m.born = e.born) := by
    intro es ms k cm h hk
    have hlt : k < es.length := by
      have := (List.getElem?_eq_some_iff.1 hk).1
      rw [h.length]; simpa using this
    obtain ⟨m, g1, g2, g3, g4⟩ := h.get (i := k) (e := es[k]) (by simp [hlt])
    refine ⟨some es[k], by simp [hlt], .inr ⟨es[k], m, rfl, ?_, g2, g3, g4⟩⟩
    rw [List.getElem?_map, g1] at hk
    simpa using hk.symm
  simp only [ccands] at hk
  simp only [cands]
  rw [hemp] at hk
  split at hk
  · rename_i he
    rw [if_pos he]
    cases k with
    | zero => simp at hk; subst hk; exact ⟨none, by simp, .inl ⟨rfl, rfl⟩⟩
    | succ k =>
      simp only [List.singleton_append, List.getElem?_cons_succ] at hk ⊢
      exact hmap hall hk
  · rename_i he
    rw [if_neg he]
    simp only [List.nil_append] at hk ⊢
    exact hmap hall hk

theorem run_mapNext {m : Nat} (hm : 0 < m) : ∃ k d, k < m ∧ (choose (.mapNext m)).run P w = .ok k { w with drawn := d } := by
  by_cases h : m ≤ 1
  · exact ⟨0, w.drawn, hm, by simp [Question.forced, h]⟩
  · exact ⟨w.tape w.drawn (.mapNext m) % m, w.drawn + 1, Nat.mod_lt _ hm, by simp [Question.forced, h, Question.cut]⟩

/-- What comes of one candidate. -/
def anext1 (S : St) (it : Nat) (m : Nat) (since : Nat) (seen : List Nat) (clock : Nat) : Option AEnt → AVal × St
  | none => (.tuple [.lit (.bool false)], S)
  | some e => (.tuple [.lit (.bool true), e.key, e.val], { S with heap := S.heap.set it (.iter (some m) since (seen ++ [e.born]) clock) })

def anext (S : St) (a : AVal) (isString : Bool) : Option (List (AVal × St)) :=
  match a with
  | .ptr it 0 =>
    match S.heap[it]? with
    | some (.raw (.stringIter s pos)) =>
      if isString = true then
        if pos < s.size then
          some [(.tuple [.lit (.bool true), .lit (goInt pos), .lit (.int .i32 (Utf8.decode s pos).1)], { S with heap := S.heap.set it (.raw (.stringIter s (pos + (Utf8.decode s pos).2))) })]
        else some [(.tuple [.lit (.bool false)], S)]
      else none
    | some (.iter none _ _ _) => if isString = true then none else some [(.tuple [.lit (.bool false)], S)]
    | some (.iter (some m) since seen last) =>
      if isString = true then none else
      match S.heap[m]? with
      | some (.map es clock) =>
        if (!seen.isEmpty && !es.isEmpty && es.all (fun e => decide (e.born ≥ last))) = true then none
        else some ((cands es since seen).map (anext1 S it m since seen clock))
      | _ => none
    | _ => none
  | _ => none

theorem tuple1 : VR E (.tuple [.lit x]) (.tuple #[x]) := by
  simp only [VR]; exact ⟨[x], VRs.cons (by simp only [VR]) VRs.nil, rfl⟩

theorem anext_sound {isString : Bool} {ty : TypeId} {outs : List (AVal × St)} (h : Ok K E S X w) (ha : VR E a x) (hv : anext S a isString = some outs) :
    ∃ v S' y w', (v, S') ∈ outs ∧ (Instr.next x isString ty).run P w = .ok y w' ∧ VR E v y ∧ Ok K E S' X w' := by
  unfold anext at hv
  split at hv
  · rename_i it
    simp only [VR] at ha; obtain ⟨c, hc, rfl⟩ := ha
    split at hv
    · rename_i st pos ho
      obtain ⟨c', u, g1, _, g3, g4⟩ := h.obj _ _ ho
      rw [hc] at g1; obtain rfl := Option.some.inj g1
      simp only [OR] at g4; subst g4
      split at hv
      · rename_i hs; subst hs
        split at hv
        · rename_i hlt
          simp only [Option.some.injEq] at hv; subst hv
          refine ⟨_, _, .tuple #[.bool true, goInt pos, .int .i32 (Utf8.decode st pos).1], _, List.mem_singleton.2 rfl, ?_, ?_, h.put (o := .raw (.stringIter st (pos + (Utf8.decode st pos).2))) (u := .stringIter st (pos + (Utf8.decode st pos).2)) hc rfl⟩
          · simp only [Instr.next, Sem.run_bind, run_getObj_siter g3, Result.andThen_ok, hlt, if_true, run_setObj_siter g3, Sem.run_pure]
          · simp only [VR]; exact ⟨_, VRs.cons (by simp only [VR]) (VRs.cons (by simp only [VR]) (VRs.cons (by simp only [VR]) VRs.nil)), rfl⟩
        · rename_i hlt
          simp only [Option.some.injEq] at hv; subst hv
          refine ⟨_, _, .tuple #[.bool false], w, List.mem_singleton.2 rfl, ?_, tuple1, h⟩
          simp only [Instr.next, Sem.run_bind, run_getObj_siter g3, Result.andThen_ok, hlt, if_false, Sem.run_pure]
      · simp at hv
    · rename_i q1 q2 q3 ho
      obtain ⟨c', u, g1, _, g3, g4⟩ := h.obj _ _ ho
      rw [hc] at g1; obtain rfl := Option.some.inj g1
      obtain ⟨cm, e1, rfl⟩ := g4
      simp only [OptB] at e1; subst e1
      split at hv
      · simp at hv
      · rename_i hs
        have hs : isString = false := by simpa using hs
        subst hs
        simp only [Option.some.injEq] at hv; subst hv
        refine ⟨_, _, .tuple #[.bool false], w, List.mem_singleton.2 rfl, ?_, tuple1, h⟩
        simp only [Instr.next, Sem.run_bind, run_getObj_iter g3, Result.andThen_ok, Sem.run_pure]
    · rename_i m since seen last ho
      obtain ⟨c', u, g1, _, g3, g4⟩ := h.obj _ _ ho
      rw [hc] at g1; obtain rfl := Option.some.inj g1
      obtain ⟨cm, e1, rfl⟩ := g4
      simp only [OptB] at e1; obtain ⟨d, hd, rfl⟩ := e1
      split at hv
      · simp at hv
      · rename_i hs
        have hs : isString = false := by simpa using hs
        subst hs
        split at hv
        · rename_i es clock hm
          obtain ⟨ms, k1, k2⟩ := h.mapAt hd hm
          split at hv
          · simp at hv
          · rename_i hgone
            simp only [Option.some.injEq] at hv; subst hv
            have hg : (!seen.toArray.isEmpty && !ms.toArray.isEmpty && ms.toArray.all (fun e => decide (e.born ≥ last))) = false := by
              have : (!seen.isEmpty && !es.isEmpty && es.all (fun e => decide (e.born ≥ last))) = false := by simpa using hgone
              rw [← this, ← k1.isEmptyL, ← k1.allBorn (p := fun b => decide (b ≥ last))]
              simp
            obtain ⟨k, dr, hk, hch⟩ := run_mapNext (P := P) (w := w) (ccands_ne ms since seen)
            obtain ⟨cm, hcm⟩ : ∃ cm, (ccands ms since seen)[k]? = some cm := ⟨_, List.getElem?_eq_getElem hk⟩
            obtain ⟨ce, hce, hrel⟩ := cands_rel k1 since seen hcm
            have hcc : ((if (((ms.toArray.filter fun e => !seen.toArray.contains e.born).filter fun e => decide (e.born < since)).isEmpty) = true then #[none] else #[]) ++
                (((ms.toArray.filter fun e => !seen.toArray.contains e.born).filter fun e => decide (e.born < since)) ++ ((ms.toArray.filter fun e => !seen.toArray.contains e.born).filter fun e => decide (e.born ≥ since))).map some : Array (Option MapEntry)) = (ccands ms since seen).toArray := by
              simp only [ccands, List.filter_toArray, List.isEmpty_toArray, List.contains_toArray]
              split <;> simp
            have hcc0 : ((if (((ms.toArray.filter (fun e => !seen.toArray.contains e.born) 0 ms.length).filter fun e => decide (e.born < since)).isEmpty) = true then #[none] else #[]) ++
                (((ms.toArray.filter (fun e => !seen.toArray.contains e.born) 0 ms.length).filter fun e => decide (e.born < since)) ++ ((ms.toArray.filter (fun e => !seen.toArray.contains e.born) 0 ms.length).filter fun e => decide (e.born ≥ since))).map some : Array (Option MapEntry)) = (ccands ms since seen).toArray := hcc
            have hmem : anext1 S it m since seen clock ce ∈ (cands es since seen).map (anext1 S it m since seen clock) := List.mem_map.2 ⟨ce, List.mem_of_getElem? hce, rfl⟩
            have hdr := h.drawn dr
            have g3' : ({ w with drawn := dr } : World).heap[c]? = some (.mapIter (some d) since seen.toArray last) := g3
            rcases hrel with ⟨rfl, rfl⟩ | ⟨e, mm, rfl, rfl, r1, r2, r3⟩
            · refine ⟨_, _, .tuple #[.bool false], { w with drawn := dr }, hmem, ?_, tuple1, hdr⟩
              simp only [Instr.next, Sem.run_bind, run_getObj_iter g3, Result.andThen_ok, run_getObj_map k2, hg, Bool.false_eq_true, if_false]
              simp only [hcc0, List.size_toArray, hch, Result.andThen_ok, List.getElem?_toArray, hcm, Sem.run_pure]
            · refine ⟨_, _, .tuple #[.bool true, mm.key, mm.val], _, hmem, ?_, ?_, hdr.put (o := .iter (some m) since (seen ++ [e.born]) clock) (u := .mapIter (some d) since (seen ++ [e.born]).toArray clock) hc ⟨some d, ⟨d, hd, rfl⟩, rfl⟩⟩
              · simp only [Instr.next, Sem.run_bind, run_getObj_iter g3, Result.andThen_ok, run_getObj_map k2, hg, Bool.false_eq_true, if_false]
                simp only [hcc0, List.size_toArray, hch, Result.andThen_ok, List.getElem?_toArray, hcm, Sem.run_bind, run_setObj_iter g3', Sem.run_pure, r3]
                simp
              · simp only [VR]; exact ⟨_, VRs.cons (by simp only [VR]) (VRs.cons r1 (VRs.cons r2 VRs.nil)), rfl⟩
        · simp at hv
    · simp at hv
  · simp at hv

end Go.Eng

namespace Go.Eng
open Go.RowKit

variable {P : Program} {K : Fix} {E F : Env} {S S' : St} {X : List (List Value)} {w w' : World} {a b v : AVal} {x y : Value} {t s : TypeId} {l r : List AVal} {xs : List Value} {i j n off f : Nat}

def abornAt : List AEnt → Nat → Nat → Option (Nat × AEnt)
  | [], _, _ => none
  | e :: es, st, i => if e.born = st then some (i, e) else abornAt es st (i + 1)

theorem abornAt_sound : ∀ {es : List AEnt} {ms : List MapEntry} {st i j : Nat} {e : AEnt}, ER E es ms → abornAt es st i = some (j, e) →
    ∃ m, ms.find? (fun e => e.born == st) = some m ∧ ms.findIdx? (fun e => (e.born : Int) == (st : Int)) = some (j - i) ∧ VR E e.key m.key ∧ VR E e.val m.val ∧ m.born = e.born ∧ i ≤ j
  | [], ms, st, i, j, e, h, hf => by simp [abornAt] at hf
  | d :: es, ms, st, i, j, e, h, hf => by
    simp only [ER] at h; obtain ⟨m, r, h1, h2, h3, h4, rfl⟩ := h
    simp only [abornAt] at hf
    split at hf
    · rename_i hb
      simp only [Option.some.injEq, Prod.mk.injEq] at hf; obtain ⟨rfl, rfl⟩ := hf
      exact ⟨m, by simp [h3, hb], by simp [List.findIdx?_cons, h3, hb], h1, h2, h3, Nat.le_refl _⟩
    · rename_i hb
      obtain ⟨m', g1, g2, g3, g4, g5, g6⟩ := abornAt_sound h4 hf
      refine ⟨m', ?_, ?_, g3, g4, g5, by omega⟩
      · have hne : (m.born == st) = false := by rw [h3]; simpa using hb
        rw [List.find?_cons, hne]; exact g1
      · have hne : ((m.born : Int) == (st : Int)) = false := by
          rw [h3, beq_eq_false_iff_ne]; exact fun hh => hb (Int.ofNat.inj hh)
        rw [List.findIdx?_cons, hne, g2]
        simp; omega

def aentry (S : St) (a : AVal) : Option AVal :=
  match a with
  | .ptr it 0 =>
    match S.heap[it]? with
    | some (.iter (some m) _ seen stepped) =>
      match seen.getLast?, S.heap[m]? with
      | some st, some (.map es clock) =>
        if clock = stepped then (abornAt es st 0).map fun p => .tuple [p.2.key, p.2.val] else none
      | _, _ => none
    | _ => none
  | _ => none

theorem aentry_sound (h : Ok K E S X w) (ha : VR E a x) (hv : aentry S a = some v) : ∃ y, (Instr.entry x).run P w = .ok y w ∧ VR E v y := by
  unfold aentry at hv
  split at hv
  · rename_i it
    simp only [VR] at ha; obtain ⟨c, hc, rfl⟩ := ha
    split at hv
    · rename_i m since seen stepped ho
      obtain ⟨c', u, g1, _, g3, g4⟩ := h.obj _ _ ho
      rw [hc] at g1; obtain rfl := Option.some.inj g1
      obtain ⟨cm, e1, rfl⟩ := g4
      simp only [OptB] at e1; obtain ⟨d, hd, rfl⟩ := e1
      split at hv
      · rename_i st es clock hst hm
        obtain ⟨ms, k1, k2⟩ := h.mapAt hd hm
        split at hv
        · rename_i hcs
          subst hcs
          simp only [Option.map_eq_some_iff] at hv
          obtain ⟨⟨j, e⟩, hf, rfl⟩ := hv
          obtain ⟨mm, f1, f2, f3, f4, f5, f6⟩ := abornAt_sound k1 hf
          refine ⟨.tuple #[mm.key, mm.val], ?_, VRs.two f3 f4⟩
          simp only [Instr.entry, Sem.run_bind, run_getObj_iter g3, Result.andThen_ok, List.back?_toArray, hst, run_getObj_map k2, bne_self_eq_false, Bool.false_eq_true, if_false, List.find?_toArray, f1, Sem.run_pure]
        · simp at hv
      · simp at hv
    · simp at hv
  · simp at hv

def amapEntry (P : Program) (S : St) (t : TypeId) (a k : AVal) : Option (AVal × St) :=
  match a, k with
  | .map m, .lit kv =>
    match P.underlying t with
    | some (.map _ et) =>
      match aseek P S t m kv, still P (zeroValue et) with
      | some (es, clock, none), some z => some (.tuple [.lit z, .lit (goInt clock)], { S with heap := S.heap.set m (.map (es ++ [⟨.lit kv, .lit z, clock⟩]) (clock + 1)) })
      | some (es, clock, some (i, v)), _ =>
        match es[i]? with
        | some ⟨.lit old, v', bn⟩ => if Instr.sameBits 10000 old kv = true then some (.tuple [v, .lit (goInt bn)], { S with heap := S.heap.set m (.map (es.modify i fun e => { e with key := .lit kv, val := v' }) clock) }) else none
        | _ => none
      | _, _ => none
    | _ => none
  | _, _ => none

theorem modify_key {ms : List MapEntry} {u : Value} {m : MapEntry} {i : Nat} (h : ms[i]? = some m) : (ms.modify i fun e => { e with key := u }) = ms.modify i fun e => { e with key := u, val := m.val } := by
  induction ms generalizing i with
  | nil => simp at h
  | cons d ms ih =>
    cases i with
    | zero => simp at h; subst h; simp
    | succ i => simp at h; simp [ih h]

theorem amapEntry_sound {k : AVal} {p q : Value} (h : Ok K E S X w) (ha : VR E a p) (hk : VR E k q) (hs : amapEntry P S t a k = some (v, S')) :
    ∃ y w', (Instr.mapEntry t p q).run P w = .ok y w' ∧ VR E v y ∧ Ok K E S' X w' := by
  unfold amapEntry at hs
  split at hs
  · rename_i m kv
    simp only [VR] at ha hk; obtain ⟨c, hc, rfl⟩ := ha; subst hk
    split at hs
    · rename_i kt0 et hu0
      split at hs
      · rename_i es clock z hsk hz
        simp only [Option.some.injEq, Prod.mk.injEq] at hs; obtain ⟨rfl, rfl⟩ := hs
        obtain ⟨kt, et', ms, hu, ho, g1, g2, g3, g4, g5⟩ := aseek_sound h hc hsk
        simp only at g5
        rw [hu0] at hu; simp only [Option.some.injEq, TypeDesc.map.injEq] at hu; obtain ⟨rfl, rfl⟩ := hu
        refine ⟨.tuple #[z, goInt clock], _, ?_, VRs.two (by simp only [VR]) (by simp only [VR]), h.put (o := .map (es ++ [⟨.lit q, .lit z, clock⟩]) (clock + 1)) (u := .map (ms ++ [(⟨q, z, clock⟩ : MapEntry)]).toArray (clock + 1)) hc ⟨_, g1.push (k := .lit q) (u := q) (by simp only [VR]) (by simp only [VR]), rfl⟩⟩
        simp [Instr.mapEntry, run_underlying' hu0, run_getObj_map g2, g3, g5, still_run hz, run_setObj_map g2]
      · rename_i es clock i vv hsk
        obtain ⟨kt, et', ms, hu, ho, g1, g2, g3, g4, x', g5, g6, g7⟩ := aseek_sound h hc hsk
        split at hs
        · rename_i old v0 b0 he
          split at hs
          · rename_i hsame
            simp only [Option.some.injEq, Prod.mk.injEq] at hs; obtain ⟨rfl, rfl⟩ := hs
            obtain ⟨mm, k1, k2, k3, k4⟩ := g1.get he
            simp only [VR] at k2
            refine ⟨.tuple #[x', goInt mm.born], _, ?_, VRs.two g6 (by simp only [VR, k4]), h.put (o := .map (es.modify i fun e => { e with key := .lit q, val := v0 }) clock) (u := .map (ms.modify i fun e => { e with key := q, val := mm.val }).toArray clock) hc ⟨_, g1.modify (k := .lit q) (u := q) (by simp only [VR]) k3 i, rfl⟩⟩
            simp [Instr.mapEntry, run_underlying' hu, run_getObj_map g2, g3, g5, k1, k2, Instr.keyThatStays, hsame, run_setObj_map g2, modify_key k1]
          · simp at hs
        · simp at hs
      · simp at hs
    · simp at hs
  · simp at hs

def aentryStore (S : St) (a st v : AVal) : Option St :=
  match a, st with
  | .map m, .lit (.int _ (.ofNat n)) =>
    match S.heap[m]? with
    | some (.map es clock) =>
      match abornAt es n 0 with
      | some (i, e) => some { S with heap := S.heap.set m (.map (es.modify i fun d => { d with key := e.key, val := v }) clock) }
      | none => none
    | _ => none
  | _, _ => none

theorem modify_val {ms : List MapEntry} {u : Value} {m : MapEntry} {i : Nat} (h : ms[i]? = some m) : (ms.modify i fun e => { e with val := u }) = ms.modify i fun e => { e with key := m.key, val := u } := by
  induction ms generalizing i with
  | nil => simp at h
  | cons d ms ih =>
    cases i with
    | zero => simp at h; subst h; simp
    | succ i => simp at h; simp [ih h]

theorem abornAt_get : ∀ {es : List AEnt} {st i j : Nat} {e : AEnt}, abornAt es st i = some (j, e) → i ≤ j ∧ es[j - i]? = some e
  | [], st, i, j, e, h => by simp [abornAt] at h
  | d :: es, st, i, j, e, h => by
    simp only [abornAt] at h
    split at h
    · simp only [Option.some.injEq, Prod.mk.injEq] at h; obtain ⟨rfl, rfl⟩ := h; simp
    · obtain ⟨h1, h2⟩ := abornAt_get h
      refine ⟨by omega, ?_⟩
      have : j - i = (j - (i + 1)) + 1 := by omega
      rw [this]; simpa using h2

theorem aentryStore_sound {st : AVal} {p q : Value} (h : Ok K E S X w) (ha : VR E a p) (hk : VR E st q) (hx : VR E v x) (hs : aentryStore S a st v = some S') :
    ∃ w', (Instr.entryStore t p q x).run P w = .ok () w' ∧ Ok K E S' X w' := by
  unfold aentryStore at hs
  split at hs
  · rename_i m k n
    simp only [VR] at ha hk; obtain ⟨c, hc, rfl⟩ := ha; subst hk
    split at hs
    · rename_i es clock ho
      obtain ⟨ms, g1, g2⟩ := h.mapAt hc ho
      split at hs
      · rename_i i e hf
        simp only [Option.some.injEq] at hs; subst hs
        obtain ⟨mm, f1, f2, f3, f4, f5, f6⟩ := abornAt_sound g1 hf
        obtain ⟨_, hget⟩ := abornAt_get hf
        obtain ⟨m2, k1, k2, k3, k4⟩ := g1.get hget
        simp only [Nat.sub_zero] at k1 f2
        refine ⟨_, ?_, h.put (o := .map (es.modify i fun d => { d with key := e.key, val := v }) clock) (u := .map (ms.modify i fun d => { d with key := m2.key, val := x }).toArray clock) hc ⟨_, g1.modify k2 hx i, rfl⟩⟩
        have f2' : ms.findIdx? (fun e => (e.born : Int) == Int.ofNat n) = some i := f2
        simp only [Instr.entryStore, Sem.run_bind, run_getObj_map g2, Result.andThen_ok, asInt, asIntOf, Sem.run_pure, List.findIdx?_toArray, f2', List.modify_toArray, modify_val k1, run_setObj_map g2]
      · simp at hs
    · simp at hs
  · simp at hs

end Go.Eng

namespace Go.Eng
open Go.RowKit

variable {P : Program} {K : Fix} {E F : Env} {S S' : St} {X : List (List Value)} {w w' : World} {a b v : AVal} {x y : Value} {t s : TypeId} {l r : List AVal} {xs : List Value} {i j n off f : Nat}

def one (o : AVal × St) : List (AVal × St) := [o]
def skipTo (S : St) : List (AVal × St) := [(uv, S)]

/-- A slice whose capacity may just be used up: both ways. -/
def aslice2 (P : Program) (S : St) (t : TypeId) (a : AVal) (lo hi mx : Option AVal) : Option (List (AVal × St)) :=
  match a with
  | .slice b off len m (some q) =>
    match P.underlying t with
    | some (.slice e) =>
      match P.info? e, abounds S len m (some q) lo hi mx with
      | some inf, some (l, u, none) =>
        if u = l ∧ capGe S m (some q) u = true then some [(.slice b off 0 0 none, S), (.slice b (off + l * inf.size) 0 (m + l) (some q), { S with caps := S.caps.set q (m + l + 1) })] else none
      | _, _ => none
    | _ => none
  | _ => none

theorem aslice2_sound {lo hi mx : Option AVal} {lo' hi' mx' : Option Value} {outs : List (AVal × St)} (h : Ok K E S X w) (ha : VR E a x) (h1 : OptR E lo lo') (h2 : OptR E hi hi') (h3 : OptR E mx mx')
    (hv : aslice2 P S t a lo hi mx = some outs) : ∃ v S' y, (v, S') ∈ outs ∧ (Instr.sliceAt t x lo' hi' mx').run P w = .ok y w ∧ VR E v y ∧ Ok K E S' X w := by
  unfold aslice2 at hv
  split at hv
  · rename_i b off len m q
    simp only [VR] at ha; obtain ⟨d, cap, hd, hcap, rfl⟩ := ha
    split at hv
    · rename_i e hu
      split at hv
      · rename_i inf l u hinf hb
        obtain ⟨hr, hle⟩ := abounds_sound (P := P) (isSlice := true) h hcap h1 h2 h3 hb
        split at hv
        · rename_i hul
          obtain ⟨hul, hge0⟩ := hul
          subst hul
          have hge := capGe_sound h hcap hge0
          simp only [Option.some.injEq] at hv; subst hv
          simp only [CapR] at hcap
          obtain ⟨nn, e1, e2, e3⟩ := hcap
          rcases Nat.lt_or_ge u cap with g | g
          · have hne : ¬ cap = u := by omega
            refine ⟨_, _, .slice (some ⟨d, off + u * inf.size, none⟩) (u - u) (cap - u), List.mem_cons_of_mem _ (List.mem_singleton.2 rfl), ?_, ?_, h.raise e1 (by omega)⟩
            · simp [Instr.sliceAt, run_underlying' hu, Instr.slice, hr, run_sizeOf' hinf, add_plain, hne]
            · rw [Nat.sub_self]
              simp only [VR]
              exact ⟨d, _, hd, ⟨nn, e1, by omega, by omega⟩, rfl⟩
          · have he : cap = u := by omega
            subst he
            refine ⟨_, _, .slice (some ⟨d, off, none⟩) 0 0, List.mem_cons_self .., ?_, ?_, h⟩
            · simp [Instr.sliceAt, run_underlying' hu, Instr.slice, hr, run_sizeOf' hinf, add_plain]
            · simp only [VR]
              exact ⟨d, _, hd, rfl, rfl⟩
        · simp at hv
      · simp at hv
    · simp at hv
  · simp at hv

/-- What an operation that changes memory may give. -/
def awrite (P : Program) (S : St) (A : Operand → Option AVal) (o : Oper) : Option (List (AVal × St)) :=
  match o.op with
  | .alloc e => (still P (zeroValue e)).map fun z => one (newVarA S e (.lit z))
  | .box e x => (A x).map fun v => one (newVarA S e v)
  | .buildSlice t len parts => ((aparts A parts.toList).bind (abuildSlice P S t len)).map one
  | .store t p x => match A p, A x with
    | some p, some v => (astoreAt P S t p v).map skipTo
    | _, _ => none
  | .makeMap t r => ((aopt A r).bind (amakeMap P S t)).map one
  | .makeSlice t l c => match A l, A c with
    | some l, some c => (amakeSlice P S t l c).map one
    | _, _ => none
  | .mapUpdate t m k x => match A m, A k, A x with
    | some m, some k, some v => (aupdate P S t m k v).map skipTo
    | _, _, _ => none
  | .insert t m k x => match A m, A k, A x with
    | some m, some k, some v => (aupdate P S t m k v).map skipTo
    | _, _, _ => none
  | .mapEntry t m k => match A m, A k with
    | some m, some k => (amapEntry P S t m k).map one
    | _, _ => none
  | .entryStore _ m st x => match A m, A st, A x with
    | some m, some st, some v => (aentryStore S m st v).map skipTo
    | _, _, _ => none
  | .range t x => ((A x).bind (arange P S t)).map one
  | .next it isString => (A it).bind fun a => anext S a isString
  | .entry it => ((A it).bind (aentry S)).map fun v => [(v, S)]
  | .slice t x lo hi mx => match A x, aopt A lo, aopt A hi, aopt A mx with
    | some a, some lo, some hi, some mx => match aslice P S t a lo hi mx with
      | some v => some [(v, S)]
      | none => aslice2 P S t a lo hi mx
    | _, _, _, _ => none
  | .call { callee := .builtin .append, args, argTypes } => match aargs A args.toList with
    | some [p, q] => aappend P S argTypes.toList p q
    | _ => none
  | .call { callee := .builtin .delete, args, argTypes } => match aargs A args.toList, argTypes.toList with
    | some [p, q], [t, _] => (adelete P S t p q).map fun S' => [(.lit (.tuple #[]), S')]
    | _, _ => none
  | .call { callee := .builtin .copy, args, argTypes } => match aargs A args.toList with
    | some [p, q] => (acopy P S argTypes.toList p q).map one
    | _ => none
  | .call { callee := .builtin .clear, args, argTypes } => match aargs A args.toList with
    | some [p] => (aclear P S argTypes.toList p).map fun S' => [(.lit (.tuple #[]), S')]
    | _ => none
  | _ => none

theorem args_two {A : Operand → Option AVal} {ρ : Operand → Value} {args : Array Operand} {p q : AVal} (hA : EvR E A ρ) (h : aargs A args.toList = some [p, q]) :
    ∃ x y, args.map ρ = #[x, y] ∧ VR E p x ∧ VR E q y := by
  have hr := aargs_sound hA h
  simp only [VRs] at hr
  obtain ⟨x, r, h1, ⟨y, r2, h2, rfl, rfl⟩, h3⟩ := hr
  refine ⟨x, y, ?_, h1, h2⟩
  apply Array.ext'
  simp only [Array.toList_map, h3]

theorem args_one {A : Operand → Option AVal} {ρ : Operand → Value} {args : Array Operand} {p : AVal} (hA : EvR E A ρ) (h : aargs A args.toList = some [p]) :
    ∃ x, args.map ρ = #[x] ∧ VR E p x := by
  have hr := aargs_sound hA h
  simp only [VRs] at hr
  obtain ⟨x, r, h1, rfl, h3⟩ := hr
  refine ⟨x, ?_, h1⟩
  apply Array.ext'
  simp only [Array.toList_map, h3]

theorem run_v {s : Sem Value} (h : s.run P w = .ok y w') : (do pure (.value (← s)) : Sem Next).run P w = .ok (.value y) w' := by
  rw [Sem.run_bind, h]; rfl
theorem run_u {s : Sem Unit} (h : s.run P w = .ok () w') : (do s; pure .skip : Sem Next).run P w = .ok .skip w' := by
  rw [Sem.run_bind, h]; rfl

theorem awrite_sound {A : Operand → Option AVal} {ρ : Operand → Value} {o : Oper} {outs : List (AVal × St)} (h : Ok K E S X w) (hA : EvR E A ρ) (hv : awrite P S A o = some outs) :
    Gives P K E X (execOp ρ o) w outs := by
  obtain ⟨dst, op, type, pos, after, guard⟩ := o
  have uvR : ∀ {E' : Env}, VR E' uv undef := fun {E'} => by simp only [uv, VR]
  unfold awrite at hv
  simp only at hv
  split at hv
  · simp only [Option.map_eq_some_iff] at hv
    obtain ⟨z, hz, rfl⟩ := hv
    obtain ⟨y, w', E', g1, g2, g3, g4⟩ := newVarA_sound (P := P) (t := ‹TypeId›) (v := .lit z) (x := z) h (by simp only [VR])
    refine ⟨_, _, y, w', E', List.mem_singleton.2 rfl, .inl ?_, g2, g3, g4⟩
    refine run_v ?_
    simp only [Instr.alloc, Sem.run_bind, still_run hz, Result.andThen_ok]
    rw [Sem.run_bind] at g1; exact g1
  · simp only [Option.map_eq_some_iff] at hv
    obtain ⟨v, hv, rfl⟩ := hv
    obtain ⟨y, w', E', g1, g2, g3, g4⟩ := newVarA_sound (P := P) (t := ‹TypeId›) h (hA _ _ hv)
    exact ⟨_, _, y, w', E', List.mem_singleton.2 rfl, .inl (run_v g1), g2, g3, g4⟩
  · rename_i t len parts
    simp only [Option.map_eq_some_iff, Option.bind_eq_some_iff] at hv
    obtain ⟨⟨v, S'⟩, ⟨ps, hps, hb⟩, rfl⟩ := hv
    obtain ⟨y, w', E', g1, g2, g3, g4⟩ := abuildSlice_sound h (aparts_sound hA hps) hb
    refine ⟨v, S', y, w', E', List.mem_singleton.2 rfl, .inl (run_v ?_), g2, g3, g4⟩
    have e : (parts.map fun x => match x with | (i, x) => (i, ρ x)) = (parts.toList.map fun p => (p.1, ρ p.2)).toArray := by simp [← Array.toList_map]
    rw [e]; exact g1
  · split at hv
    · rename_i p v hp hx
      simp only [Option.map_eq_some_iff] at hv
      obtain ⟨S', hs, rfl⟩ := hv
      obtain ⟨w', g1, g2⟩ := astoreAt_sound (P := P) h (hA _ _ hp) (hA _ _ hx) hs
      exact ⟨uv, S', undef, w', E, List.mem_singleton.2 rfl, .inr ⟨rfl, run_u g1⟩, uvR, g2, .refl E⟩
    · simp at hv
  · simp only [Option.map_eq_some_iff, Option.bind_eq_some_iff] at hv
    obtain ⟨⟨v, S'⟩, ⟨r, hr, hb⟩, rfl⟩ := hv
    obtain ⟨y, w', E', g1, g2, g3, g4⟩ := amakeMap_sound (P := P) h (aopt_sound hA hr) hb
    exact ⟨v, S', y, w', E', List.mem_singleton.2 rfl, .inl (run_v g1), g2, g3, g4⟩
  · split at hv
    · rename_i l c hl hc
      simp only [Option.map_eq_some_iff] at hv
      obtain ⟨⟨v, S'⟩, hb, rfl⟩ := hv
      obtain ⟨y, w', E', g1, g2, g3, g4⟩ := amakeSlice_sound (P := P) h (hA _ _ hl) (hA _ _ hc) hb
      exact ⟨v, S', y, w', E', List.mem_singleton.2 rfl, .inl (run_v g1), g2, g3, g4⟩
    · simp at hv
  · split at hv
    · rename_i m k v hm hk hx
      simp only [Option.map_eq_some_iff] at hv
      obtain ⟨S', hs, rfl⟩ := hv
      obtain ⟨w', g1, g2⟩ := aupdate_sound (P := P) h (hA _ _ hm) (hA _ _ hk) (hA _ _ hx) hs
      exact ⟨uv, S', undef, w', E, List.mem_singleton.2 rfl, .inr ⟨rfl, run_u g1⟩, uvR, g2, .refl E⟩
    · simp at hv
  · split at hv
    · rename_i m k v hm hk hx
      simp only [Option.map_eq_some_iff] at hv
      obtain ⟨S', hs, rfl⟩ := hv
      obtain ⟨w', g1, g2⟩ := aupdate_sound (P := P) h (hA _ _ hm) (hA _ _ hk) (hA _ _ hx) hs
      exact ⟨uv, S', undef, w', E, List.mem_singleton.2 rfl, .inr ⟨rfl, run_u g1⟩, uvR, g2, .refl E⟩
    · simp at hv
  · split at hv
    · rename_i m k hm hk
      simp only [Option.map_eq_some_iff] at hv
      obtain ⟨⟨v, S'⟩, hs, rfl⟩ := hv
      obtain ⟨y, w', g1, g2, g3⟩ := amapEntry_sound (P := P) h (hA _ _ hm) (hA _ _ hk) hs
      exact ⟨v, S', y, w', E, List.mem_singleton.2 rfl, .inl (run_v g1), g2, g3, .refl E⟩
    · simp at hv
  · split at hv
    · rename_i m k v hm hk hx
      simp only [Option.map_eq_some_iff] at hv
      obtain ⟨S', hs, rfl⟩ := hv
      obtain ⟨w', g1, g2⟩ := aentryStore_sound (P := P) h (hA _ _ hm) (hA _ _ hk) (hA _ _ hx) hs
      exact ⟨uv, S', undef, w', E, List.mem_singleton.2 rfl, .inr ⟨rfl, run_u g1⟩, uvR, g2, .refl E⟩
    · simp at hv
  · simp only [Option.map_eq_some_iff, Option.bind_eq_some_iff] at hv
    obtain ⟨⟨v, S'⟩, ⟨p, hp, hb⟩, rfl⟩ := hv
    obtain ⟨y, w', E', g1, g2, g3, g4⟩ := arange_sound (P := P) h (hA _ _ hp) hb
    exact ⟨v, S', y, w', E', List.mem_singleton.2 rfl, .inl (run_v g1), g2, g3, g4⟩
  · simp only [Option.bind_eq_some_iff] at hv
    obtain ⟨p, hp, hb⟩ := hv
    obtain ⟨v, S', y, w', g0, g1, g2, g3⟩ := anext_sound (P := P) (ty := type) h (hA _ _ hp) hb
    exact ⟨v, S', y, w', E, g0, .inl (run_v g1), g2, g3, .refl E⟩
  · simp only [Option.map_eq_some_iff, Option.bind_eq_some_iff] at hv
    obtain ⟨v, ⟨p, hp, hb⟩, rfl⟩ := hv
    obtain ⟨y, g1, g2⟩ := aentry_sound (P := P) h (hA _ _ hp) hb
    exact ⟨v, S, y, w, E, List.mem_singleton.2 rfl, .inl (run_v g1), g2, h, .refl E⟩
  · split at hv
    · rename_i a lo hi mx h0 h1 h2 h3
      split at hv
      · rename_i v hs
        simp only [Option.some.injEq] at hv; subst hv
        obtain ⟨y, g1, g2⟩ := aslice_sound h (hA _ _ h0) (aopt_sound hA h1) (aopt_sound hA h2) (aopt_sound hA h3) hs
        exact ⟨v, S, y, w, E, List.mem_singleton.2 rfl, .inl (run_v g1), g2, h, .refl E⟩
      obtain ⟨v, S', y, g0, g1, g2, g3⟩ := aslice2_sound h (hA _ _ h0) (aopt_sound hA h1) (aopt_sound hA h2) (aopt_sound hA h3) hv
      exact ⟨v, S', y, w, E, g0, .inl (run_v g1), g2, g3, .refl E⟩
    · simp at hv
  · split at hv
    · rename_i args ats p q hpq
      obtain ⟨x, y, e1, r1, r2⟩ := args_two hA hpq
      obtain ⟨v, S', y', w', E', g0, g1, g2, g3, g4⟩ := aappend_sound (ty := type) h r1 r2 hv
      refine ⟨v, S', y', w', E', g0, .inl ?_, g2, g3, g4⟩
      simp only [execOp, resolve, e1, Sem.run_bind, Sem.run_pure, Result.andThen_ok, invoke, builtin, g1]
    · simp at hv
  · split at hv
    · rename_i args ats _ _ p q t t' hpq hat
      have hats : ats = #[t, t'] := by rw [← hat]
      subst hats
      obtain ⟨x, y, e1, r1, r2⟩ := args_two hA hpq
      simp only [Option.map_eq_some_iff] at hv
      obtain ⟨S', hs, rfl⟩ := hv
      obtain ⟨w', g1, g2⟩ := adelete_sound (P := P) (s := t') (ty := type) h r1 r2 hs
      refine ⟨_, S', .tuple #[], w', E, List.mem_singleton.2 rfl, .inl ?_, by simp only [VR], g2, .refl E⟩
      simp only [execOp, resolve, e1, Sem.run_bind, Sem.run_pure, Result.andThen_ok, invoke, builtin, g1]
    · simp at hv
  · split at hv
    · rename_i args ats p q hpq
      obtain ⟨x, y, e1, r1, r2⟩ := args_two hA hpq
      simp only [Option.map_eq_some_iff] at hv
      obtain ⟨⟨v, S'⟩, hs, rfl⟩ := hv
      obtain ⟨y', w', g1, g2, g3⟩ := acopy_sound (P := P) (ty := type) h r1 r2 hs
      refine ⟨v, S', y', w', E, List.mem_singleton.2 rfl, .inl ?_, g2, g3, .refl E⟩
      simp only [execOp, resolve, e1, Sem.run_bind, Sem.run_pure, Result.andThen_ok, invoke, builtin, g1]
    · simp at hv
  · split at hv
    · rename_i args ats p hpq
      obtain ⟨x, e1, r1⟩ := args_one hA hpq
      simp only [Option.map_eq_some_iff] at hv
      obtain ⟨S', hs, rfl⟩ := hv
      obtain ⟨w', g1, g2⟩ := aclear_sound (P := P) (ty := type) h r1 hs
      refine ⟨_, S', .tuple #[], w', E, List.mem_singleton.2 rfl, .inl ?_, by simp only [VR], g2, .refl E⟩
      simp only [execOp, resolve, e1, Sem.run_bind, Sem.run_pure, Result.andThen_ok, invoke, builtin, g1]
    · simp at hv
  · simp at hv

/-- Which function a call calls, on what. -/
def acallee (A : Operand → Option AVal) (o : Oper) : Option (FuncId × List AVal) :=
  match o.op with
  | .call { callee := .value f, args, .. } =>
    match A f, aargs A args.toList with
    | some (.lit (.func (.func g) p q)), some vs => some (g, p.toList.map .lit ++ vs ++ q.toList.map .lit)
    | some (.func (.func g) p q), some vs => some (g, p ++ vs ++ q)
    | _, _ => none
  | _ => none

theorem acallee_sound {A : Operand → Option AVal} {ρ : Operand → Value} {o : Oper} {g : FuncId} {vs : List AVal} (hA : EvR E A ρ) (hv : acallee A o = some (g, vs)) :
    ∃ xs, VRs E vs xs ∧ ∀ w, (execOp ρ o).run P w = (callFunc g xs.toArray).run P w := by
  obtain ⟨dst, op, type, pos, after, guard⟩ := o
  unfold acallee at hv
  simp only at hv
  split at hv
  · rename_i f args ats
    split at hv
    · rename_i g' p q us hf hus
      simp only [Option.some.injEq, Prod.mk.injEq] at hv; obtain ⟨rfl, rfl⟩ := hv
      have hr := aargs_sound hA hus
      have hfv := hA _ _ hf
      simp only [VR] at hfv
      refine ⟨p.toList ++ args.toList.map ρ ++ q.toList, ((VRs.lits _).append hr).append (VRs.lits _), fun w => ?_⟩
      have e : (p.toList ++ args.toList.map ρ ++ q.toList).toArray = p ++ args.map ρ ++ q := by
        apply Array.ext'; simp
      rw [e]
      simp only [execOp, resolve, hfv, Deferred.ofValue, Sem.run_bind, Sem.run_pure, Result.andThen_ok, invoke]
    · rename_i g' p q us hf hus
      simp only [Option.some.injEq, Prod.mk.injEq] at hv; obtain ⟨rfl, rfl⟩ := hv
      have hr := aargs_sound hA hus
      have hfv := hA _ _ hf
      simp only [VR] at hfv
      obtain ⟨fs, gs, h1, h2, h3⟩ := hfv
      refine ⟨fs ++ args.toList.map ρ ++ gs, (h1.append hr).append h2, fun w => ?_⟩
      have e : (fs ++ args.toList.map ρ ++ gs).toArray = fs.toArray ++ args.map ρ ++ gs.toArray := by
        apply Array.ext'; simp
      rw [e]
      simp only [execOp, resolve, h3, Deferred.ofValue, Sem.run_bind, Sem.run_pure, Result.andThen_ok, invoke]
    · simp at hv
  · simp at hv

end Go.Eng

namespace Go.Eng
open Go.RowKit

variable {P : Program} {K : Fix} {E F : Env} {S S' : St} {X : List (List Value)} {w w' : World} {a b v : AVal} {x y : Value} {t s : TypeId} {l r : List AVal} {xs : List Value} {i j n off f : Nat}

/-- What calls may give. -/
abbrev CallF := FuncId → List AVal → St → Option (List (AVal × St))

def CallOk (P : Program) (K : Fix) (call : CallF) : Prop := ∀ f args S outs, call f args S = some outs → ∀ (E : Env) (X : List (List Value)) (w : World) (xs : List Value), Ok K E S X w → VRs E args xs →
  Calls P f xs.toArray w fun e w' => ∃ v S' y E', (v, S') ∈ outs ∧ e = .returned y ∧ VR E' v y ∧ Ok K E' S' X w'

def ExtOk (P : Program) (K : Fix) (ext : CallF) : Prop := ∀ f args S outs, ext f args S = some outs → ∀ (E : Env) (X : List (List Value)) (w : World) (xs : List Value), Ok K E S X w → VRs E args xs →
  Gives P K E X (callFunc f xs.toArray) w outs

/-- A function with a body, that is entered. -/
def enters (P : Program) (f : FuncId) : Bool :=
  match P.funcs[f]? with
  | some fn => fn.body.isSome && !(fn.name == "runtime.NumGoroutine")
  | none => false

theorem run_enters {f : FuncId} {args : Array Value} (h : enters P f = true) : (callFunc f args).run P w = .ok (.enter f args) w := by
  unfold enters at h
  split at h
  · rename_i fn hf
    simp only [Bool.and_eq_true, Bool.not_eq_true'] at h
    obtain ⟨h1, h2⟩ := h
    have h3 : fn.body.isNone = false := by cases hb : fn.body <;> simp_all
    simp only [callFunc, Sem.run_bind, run_program, Result.andThen_ok, hf, h2, h3, Bool.false_eq_true, if_false, Sem.run_pure]
  · cases h

theorem SR.append {l m : List (List AVal)} {A B : List (List Value)} (h : SR E l A) (k : SR E m B) : SR E (l ++ m) (A ++ B) := by
  induction l generalizing A with
  | nil => simp only [SR] at h; subst h; simpa using k
  | cons c l ih =>
    simp only [SR] at h; obtain ⟨x, r, h1, h2, rfl⟩ := h
    simp only [List.cons_append, SR]; exact ⟨x, _, h1, ih h2, rfl⟩
theorem SR.length {l : List (List AVal)} {A : List (List Value)} (h : SR E l A) : l.length = A.length := by
  induction l generalizing A with
  | nil => simp only [SR] at h; subst h; rfl
  | cons c l ih =>
    simp only [SR] at h; obtain ⟨x, r, h1, h2, rfl⟩ := h
    simp [ih h2]
theorem SR.split {l : List (List AVal)} {A B : List (List Value)} (h : SR E l (A ++ B)) : SR E (l.take A.length) A ∧ SR E (l.drop A.length) B := by
  induction A generalizing l with
  | nil => simp only [List.length_nil, List.take_zero, List.drop_zero, SR]; exact ⟨trivial, by simpa using h⟩
  | cons c A ih =>
    cases l with
    | nil => simp only [SR] at h; cases h
    | cons d l =>
      simp only [List.cons_append, SR, List.cons.injEq] at h
      obtain ⟨x, r, h1, h2, rfl, rfl⟩ := h
      obtain ⟨g1, g2⟩ := ih h2
      simp only [List.length_cons, List.take_succ_cons, List.drop_succ_cons, SR]
      exact ⟨⟨c, A, h1, g1, rfl⟩, g2⟩

theorem Ok.push {ctx : List (List AVal)} {CX : List (List Value)} (h : Ok K E S X w) (hc : SR E ctx CX) : Ok K E { S with stk := ctx ++ S.stk } (CX ++ X) w :=
  ⟨h.dom, h.obj, h.inj, h.kdom, h.lb, h.below, h.base, hc.append h.stk⟩
theorem Ok.pop {CX : List (List Value)} (h : Ok K E S (CX ++ X) w) : Ok K E { S with stk := S.stk.drop CX.length } X w ∧ SR E (S.stk.take CX.length) CX :=
  ⟨⟨h.dom, h.obj, h.inj, h.kdom, h.lb, h.below, h.base, h.stk.split.2⟩, h.stk.split.1⟩

/-- An operation with an effect: what it gives, what has become of the values that are held meanwhile, the memory. -/
def aeff (P : Program) (ext call : CallF) (S : St) (ctx : List (List AVal)) (A : Operand → Option AVal) (o : Oper) : Option (List (AVal × List (List AVal) × St)) :=
  match awrite P S A o with
  | some outs => some (outs.map fun p => (p.1, ctx, p.2))
  | none =>
    match acallee A o with
    | none => none
    | some (f, args) =>
      match ext f args S with
      | some outs => some (outs.map fun p => (p.1, ctx, p.2))
      | none =>
        if enters P f = true then
          (call f args { S with stk := ctx ++ S.stk }).map fun outs => outs.map fun p => (p.1, p.2.stk.take ctx.length, { p.2 with stk := p.2.stk.drop ctx.length })
        else none

theorem aeff_sound {ext call : CallF} (he : ExtOk P K ext) (hcl : CallOk P K call) {ctx : List (List AVal)} {CX : List (List Value)} {A : Operand → Option AVal} {o : Oper} {outs : List (AVal × List (List AVal) × St)}
    {ac : Act} {next : Act → World → Prop} {Q : Exit → Act → World → Prop} (h : Ok K E S X w) (hA : EvR E A ac.eval) (hc : SR E ctx CX) (hv : aeff P ext call S ctx A o = some outs)
    (hn : ∀ v ctx' S' E' w' y, (v, ctx', S') ∈ outs → VR E' v y → SR E' ctx' CX → Ok K E' S' X w' → next (ac.put o.dst y) w') : o.wp P ac w next Q := by
  have hgive : ∀ (os : List (AVal × St)) (s : Sem Next), Gives P K E X s w os → outs = os.map (fun p => (p.1, ctx, p.2)) → o.upon P ac next Q (s.run P w) := by
    rintro os s ⟨v, S', y, w', E', g0, g1, g2, g3, g4⟩ rfl
    have hmem : (v, ctx, S') ∈ os.map (fun p => (p.1, ctx, p.2)) := List.mem_map.2 ⟨(v, S'), g0, rfl⟩
    have := hn v ctx S' E' w' y hmem g2 (SR.mono g4 _ _ hc) g3
    rcases g1 with g1 | ⟨rfl, g1⟩
    · rw [g1]; exact this
    · rw [g1]; exact this
  unfold Oper.wp
  unfold aeff at hv
  split at hv
  · rename_i os hos
    simp only [Option.some.injEq] at hv
    exact hgive os _ (awrite_sound h hA hos) hv.symm
  · split at hv
    · simp at hv
    · rename_i f args hf
      obtain ⟨xs, rxs, hrun⟩ := acallee_sound (P := P) hA hf
      rw [hrun]
      split at hv
      · rename_i os hos
        simp only [Option.some.injEq] at hv
        exact hgive os _ (he f args S os hos E X w xs h rxs) hv.symm
      · split at hv
        · rename_i hent
          simp only [Option.map_eq_some_iff] at hv
          obtain ⟨os, hos, rfl⟩ := hv
          rw [run_enters hent, Oper.upon_enter]
          refine (hcl f args _ os hos E (CX ++ X) w xs (h.push hc) rxs).mono ?_
          rintro e w' ⟨v, S', y, E', g0, rfl, g2, g3⟩
          obtain ⟨g4, g5⟩ := g3.pop
          have hl := hc.length
          refine hn v (S'.stk.take ctx.length) { S' with stk := S'.stk.drop ctx.length } E' w' y (List.mem_map.2 ⟨(v, S'), g0, rfl⟩) g2 ?_ ?_
          · rw [hl]; exact g5
          · rw [hl]; exact g4
        · simp at hv

/-- The registers' operands. -/
def opR (R : List AVal) : Operand → Option AVal
  | .tmp t => R[t]?
  | .const v => some (.lit v)
  | .global g => some (.lit (.pointer (some ⟨g, 0, none⟩)))
  | .func f => some (.lit (.func (.func f) #[] #[]))

theorem opR_sound {R : List AVal} {ac : Act} (h : VRs E R ac.tmps.toList) : EvR E (opR R) ac.eval := by
  intro o v ho
  cases o with
  | tmp t =>
    simp only [opR] at ho
    obtain ⟨x, h1, h2⟩ := h.get ho
    have : ac.tmps.getD t undef = x := by
      rw [Array.getElem?_toList] at h1
      simp [Array.getD_eq_getD_getElem?, h1]
    simp only [Act.eval, this]; exact h2
  | const v => simp only [opR, Option.some.injEq] at ho; subst ho; simp only [VR, Act.eval]
  | global g => simp only [opR, Option.some.injEq] at ho; subst ho; simp only [VR, Act.eval]
  | func f => simp only [opR, Option.some.injEq] at ho; subst ho; simp only [VR, Act.eval]

def putR (R : List AVal) (dst : Option Tmp) (v : AVal) : List AVal :=
  match dst with
  | some d => R.set d v
  | none => R

theorem putR_sound {R : List AVal} {ac : Act} {dst : Option Tmp} (h : VRs E R ac.tmps.toList) (hv : VR E v x) : VRs E (putR R dst v) (ac.put dst x).tmps.toList := by
  cases dst with
  | none => exact h
  | some d => simp only [putR, Act.put, Array.toList_setIfInBounds]; exact h.set hv

theorem put_defers {ac : Act} {dst : Option Tmp} : (ac.put dst x).defers = ac.defers := by cases dst <;> rfl

/-- Is the value of a guard's test known? -/
def isB (want : Bool) : AVal → Bool
  | .lit (.bool b) => b == want
  | _ => false

theorem isB_sound {want : Bool} (h : VR E a x) : ((match some x with | some (.bool b) => some b | _ => none) == some want) = isB want a := by
  cases a with
  | lit v => simp only [VR] at h; subst h; cases x <;> simp [isB]
  | ptr b off => simp only [VR] at h; obtain ⟨c, _, rfl⟩ := h; simp [isB]
  | slice b off len m q => simp only [VR] at h; obtain ⟨c, k, _, _, rfl⟩ := h; simp [isB]
  | map b => simp only [VR] at h; obtain ⟨c, _, rfl⟩ := h; simp [isB]
  | func fn f g => simp only [VR] at h; obtain ⟨fs, gs, _, _, rfl⟩ := h; simp [isB]
  | iface t v => simp only [VR] at h; obtain ⟨y, _, rfl⟩ := h; simp [isB]
  | agg l => simp only [VR] at h; obtain ⟨y, _, rfl⟩ := h; simp [isB]
  | tuple l => simp only [VR] at h; obtain ⟨y, _, rfl⟩ := h; simp [isB]

def awanted (ops : Array Oper) (R : List AVal) (o : Oper) : Option Bool :=
  match o.guard with
  | none => some true
  | some (j, want) =>
    match (ops[j]?).bind (·.dst) with
    | none => none
    | some d => (R[d]?).map (isB want)

theorem awanted_sound {ops : Array Oper} {R : List AVal} {ac : Act} {o : Oper} {b : Bool} (h : VRs E R ac.tmps.toList) (hv : awanted ops R o = some b) : Region.wanted o (yielded ops ac.tmps) = b := by
  unfold awanted at hv
  unfold Region.wanted
  split at hv
  · rename_i hg; simp only [Option.some.injEq] at hv; subst hv; rw [hg]
  · rename_i j want hg
    rw [hg]
    split at hv
    · simp at hv
    · rename_i d hd
      simp only [Option.map_eq_some_iff] at hv
      obtain ⟨v, hv, rfl⟩ := hv
      obtain ⟨x, h1, h2⟩ := h.get hv
      rw [Array.getElem?_toList] at h1
      simp only [yielded, hd, Option.bind_some, h1]
      exact isB_sound h2

/-- One operation, in its turn. -/
def aop (P : Program) (K : Fix) (ext call : CallF) (ops : Array Oper) (R : List AVal) (S : St) (o : Oper) : Option (List (List AVal × St)) :=
  match awanted ops R o with
  | none => none
  | some false => some [(putR R o.dst uv, S)]
  | some true =>
    match aread P K S (opR R) o with
    | some v => some [(putR R o.dst v, S)]
    | none => (aeff P ext call S [R] (opR R) o).map fun outs => outs.filterMap fun p => match p.2.1 with
      | [R'] => some (putR R' o.dst p.1, p.2.2)
      | _ => none

def bindAll {α β : Type} (f : α → Option (List β)) : List α → Option (List β)
  | [] => some []
  | x :: l => match f x, bindAll f l with
    | some a, some b => some (a ++ b)
    | _, _ => none

theorem bindAll_mem {α β : Type} {f : α → Option (List β)} : ∀ {l : List α} {r : List β} {x : α}, bindAll f l = some r → x ∈ l → ∃ ys, f x = some ys ∧ ∀ y ∈ ys, y ∈ r
  | [], r, x, _, hx => by simp at hx
  | z :: l, r, x, h, hx => by
    simp only [bindAll] at h
    split at h
    · rename_i a b h1 h2
      simp only [Option.some.injEq] at h; subst h
      rcases List.mem_cons.1 hx with rfl | hx
      · exact ⟨a, h1, fun y hy => List.mem_append.2 (.inl hy)⟩
      · obtain ⟨ys, g1, g2⟩ := bindAll_mem h2 hx
        exact ⟨ys, g1, fun y hy => List.mem_append.2 (.inr (g2 y hy))⟩
    · simp at h

def aseq (P : Program) (K : Fix) (ext call : CallF) (ops : Array Oper) : List Oper → List AVal → St → Option (List (List AVal × St))
  | [], R, S => some [(R, S)]
  | o :: l, R, S => (aop P K ext call ops R S o).bind (bindAll fun p => aseq P K ext call ops l p.1 p.2)

theorem aseq_sound {ext call : CallF} (he : ExtOk P K ext) (hcl : CallOk P K call) {ops : Array Oper} {Q : Exit → Act → World → Prop} : ∀ {l : List Oper} {R : List AVal} {S : St} {E : Env} {w : World} {ac : Act} {outs : List (List AVal × St)},
    Ok K E S X w → VRs E R ac.tmps.toList → aseq P K ext call ops l R S = some outs →
    (∀ R' S' E' w' ac', (R', S') ∈ outs → VRs E' R' ac'.tmps.toList → Ok K E' S' X w' → ac'.defers = ac.defers → Q .normal ac' w') → wpList P ops Q l ac w
  | [], R, S, E, w, ac, outs, h, hR, hv, hq => by
    simp only [aseq, Option.some.injEq] at hv; subst hv
    exact hq R S E w ac (List.mem_singleton.2 rfl) hR h rfl
  | o :: l, R, S, E, w, ac, outs, h, hR, hv, hq => by
    simp only [aseq, Option.bind_eq_some_iff] at hv
    obtain ⟨mid, hmid, hv⟩ := hv
    have step : ∀ {R' : List AVal} {S' : St} {E' : Env} {w' : World} {ac' : Act}, (R', S') ∈ mid → VRs E' R' ac'.tmps.toList → Ok K E' S' X w' → ac'.defers = ac.defers → wpList P ops Q l ac' w' := by
      intro R' S' E' w' ac' hm hR' h' hd
      obtain ⟨ys, g1, g2⟩ := bindAll_mem hv hm
      exact aseq_sound he hcl h' hR' g1 fun R2 S2 E2 w2 ac2 hm2 hR2 h2 hd2 => hq R2 S2 E2 w2 ac2 (g2 _ hm2) hR2 h2 (hd2.trans hd)
    unfold aop at hmid
    unfold wpList
    split at hmid
    · simp at hmid
    · rename_i hw
      rw [if_neg (by rw [awanted_sound hR hw]; simp)]
      simp only [Option.some.injEq] at hmid; subst hmid
      exact step (List.mem_singleton.2 rfl) (putR_sound hR (by simp only [uv, VR])) h put_defers
    · rename_i hw
      rw [if_pos (awanted_sound hR hw)]
      left
      split at hmid
      · rename_i v hrd
        simp only [Option.some.injEq] at hmid; subst hmid
        obtain ⟨y, g1, g2⟩ := aread_sound h (opR_sound hR) hrd
        unfold Oper.wp
        rw [g1, Oper.upon_value]
        exact step (List.mem_singleton.2 rfl) (putR_sound hR g2) h put_defers
      · simp only [Option.map_eq_some_iff] at hmid
        obtain ⟨os, hos, rfl⟩ := hmid
        refine aeff_sound he hcl (CX := [ac.tmps.toList]) h (opR_sound hR) (by simp only [SR]; exact ⟨_, _, hR, rfl, rfl⟩) hos ?_
        intro v ctx' S' E' w' y hm hy hc' h'
        cases ctx' with
        | nil => simp only [SR] at hc'; cases hc'
        | cons R' rest =>
          simp only [SR, List.cons.injEq] at hc'
          obtain ⟨x, r, c1, c2, rfl, rfl⟩ := hc'
          cases rest with
          | cons c rest => simp only [SR] at c2; obtain ⟨_, _, _, _, hh⟩ := c2; cases hh
          | nil =>
            refine step (R' := putR R' o.dst v) (S' := S') (List.mem_filterMap.2 ⟨(v, [R'], S'), hm, rfl⟩) ?_ h' put_defers
            exact putR_sound c1 hy

end Go.Eng

namespace Go.Eng
open Go.RowKit

variable {P : Program} {K : Fix} {E F : Env} {S S' : St} {X : List (List Value)} {w w' : World} {a b v : AVal} {x y : Value} {t s : TypeId} {l r : List AVal} {xs : List Value} {i j n off f : Nat}

/-! ### are two the same? -/

def allSame {α : Type} (f : α → α → Bool) : List α → List α → Bool
  | [], [] => true
  | x :: l, y :: m => f x y && allSame f l m
  | _, _ => false

theorem allSame_eq {α : Type} {f : α → α → Bool} (hf : ∀ x y, f x y = true → x = y) : ∀ {l m : List α}, allSame f l m = true → l = m
  | [], [], _ => rfl
  | x :: l, y :: m, h => by
    simp only [allSame, Bool.and_eq_true] at h
    rw [hf x y h.1, allSame_eq hf h.2]
  | [], _ :: _, h => by simp [allSame] at h
  | _ :: _, [], h => by simp [allSame] at h

def beqV : Nat → Value → Value → Bool
  | _, .bool a, .bool b => a == b
  | _, .int j a, .int k b => decide (j = k) && decide (a = b)
  | _, .float j a, .float k b => decide (j = k) && decide (a = b)
  | _, .string a, .string b => decide (a = b)
  | _, .pointer a, .pointer b => decide (a = b)
  | _, .slice a l c, .slice b m d => decide (a = b) && decide (l = m) && decide (c = d)
  | _, .map a, .map b => decide (a = b)
  | _, .nilFunc, .nilFunc => true
  | _, .nilIface, .nilIface => true
  | n + 1, .iface t x, .iface u y => decide (t = u) && beqV n x y
  | n + 1, .agg a, .agg b => allSame (beqV n) a.toList b.toList
  | n + 1, .tuple a, .tuple b => allSame (beqV n) a.toList b.toList
  | n + 1, .func f p q, .func g p' q' => decide (f = g) && allSame (beqV n) p.toList p'.toList && allSame (beqV n) q.toList q'.toList
  | _, _, _ => false

theorem beqV_eq : ∀ (n : Nat) (x y : Value), beqV n x y = true → x = y := by
  intro n
  induction n with
  | zero =>
    intro x y h
    cases x <;> cases y <;> simp_all [beqV]
  | succ n ih =>
    intro x y h
    cases x <;> cases y <;> simp only [beqV, Bool.and_eq_true, decide_eq_true_eq, beq_iff_eq, Bool.false_eq_true] at h
    all_goals first
      | (subst h; rfl)
      | (obtain ⟨h1, h2⟩ := h; subst h1; subst h2; rfl)
      | (obtain ⟨⟨h1, h2⟩, h3⟩ := h; subst h1; subst h2; subst h3; rfl)
      | rfl
      | (obtain ⟨h1, h2⟩ := h; rw [h1, ih _ _ h2])
      | (rw [Array.ext' (allSame_eq ih h)])
      | (obtain ⟨⟨h1, h2⟩, h3⟩ := h; rw [h1, Array.ext' (allSame_eq ih h2), Array.ext' (allSame_eq ih h3)])

mutual
def beqA : AVal → AVal → Bool
  | .lit x, .lit y => beqV 100 x y
  | .ptr b o, .ptr c p => decide (b = c) && decide (o = p)
  | .slice b o l m q, .slice b' o' l' m' q' => decide (b = b') && decide (o = o') && decide (l = l') && decide (m = m') && decide (q = q')
  | .map b, .map c => decide (b = c)
  | .func f p q, .func g p' q' => decide (f = g) && beqAs p p' && beqAs q q'
  | .iface t x, .iface u y => decide (t = u) && beqA x y
  | .agg l, .agg m => beqAs l m
  | .tuple l, .tuple m => beqAs l m
  | _, _ => false
def beqAs : List AVal → List AVal → Bool
  | [], [] => true
  | x :: l, y :: m => beqA x y && beqAs l m
  | _, _ => false
end

mutual
theorem beqA_eq : ∀ (x y : AVal), beqA x y = true → x = y
  | .lit x, y, h => by
    cases y <;> simp only [beqA, Bool.false_eq_true] at h
    rw [beqV_eq _ _ _ h]
  | .ptr b o, y, h => by
    cases y <;> simp only [beqA, Bool.and_eq_true, decide_eq_true_eq, Bool.false_eq_true] at h
    rw [h.1, h.2]
  | .slice b o l m q, y, h => by
    cases y <;> simp only [beqA, Bool.and_eq_true, decide_eq_true_eq, Bool.false_eq_true] at h
    obtain ⟨⟨⟨⟨h1, h2⟩, h3⟩, h4⟩, h5⟩ := h
    rw [h1, h2, h3, h4, h5]
  | .map b, y, h => by
    cases y <;> simp only [beqA, decide_eq_true_eq, Bool.false_eq_true] at h
    rw [h]
  | .func f p q, y, h => by
    cases y <;> simp only [beqA, Bool.and_eq_true, decide_eq_true_eq, Bool.false_eq_true] at h
    obtain ⟨⟨h1, h2⟩, h3⟩ := h
    rw [h1, beqAs_eq _ _ h2, beqAs_eq _ _ h3]
  | .iface t x, y, h => by
    cases y <;> simp only [beqA, Bool.and_eq_true, decide_eq_true_eq, Bool.false_eq_true] at h
    rw [h.1, beqA_eq _ _ h.2]
  | .agg l, y, h => by
    cases y <;> simp only [beqA, Bool.false_eq_true] at h
    rw [beqAs_eq _ _ h]
  | .tuple l, y, h => by
    cases y <;> simp only [beqA, Bool.false_eq_true] at h
    rw [beqAs_eq _ _ h]
theorem beqAs_eq : ∀ (l m : List AVal), beqAs l m = true → l = m
  | [], [], _ => rfl
  | x :: l, y :: m, h => by
    simp only [beqAs, Bool.and_eq_true] at h
    rw [beqA_eq _ _ h.1, beqAs_eq _ _ h.2]
  | [], _ :: _, h => by simp [beqAs] at h
  | _ :: _, [], h => by simp [beqAs] at h
end

/-! ### a region whose order is open -/

def findDst (ops : List Oper) (t : Nat) : Option Nat := ops.findIdx? fun o => o.dst == some t

def predsOf (ops : List Oper) : List (List Nat) :=
  ops.foldl (fun acc o => acc ++ [((o.after.toList.filter (Region.binds .any)).flatMap fun e => e.on :: acc.getD e.on []).eraseDups]) []

def isW (o : Oper) : Bool :=
  match o.op with
  | .alloc _ | .box .. | .buildSlice .. | .store .. | .makeMap .. | .makeSlice .. | .mapUpdate .. | .insert .. | .mapEntry .. | .entryStore .. | .range .. | .next .. | .entry _ => true
  | .call { callee := .value _, .. } => true
  | .call { callee := .builtin .append, .. } | .call { callee := .builtin .delete, .. } | .call { callee := .builtin .copy, .. } | .call { callee := .builtin .clear, .. } => true
  | _ => false

def isSl (o : Oper) : Bool :=
  match o.op with
  | .slice .. => true
  | _ => false

def drawChk (ops : List Oper) (Bs : List (List Nat)) : Bool :=
  (List.range ops.length).all fun i =>
    match ops[i]? with
    | none => false
    | some o => (o.after.toList.all fun e => !(Region.binds .any e) || decide (e.on < i)) &&
      ((Bs.getD i []).all fun j => o.after.toList.any fun e => Region.binds .any e && (e.on == j || (Bs.getD e.on []).contains j)) &&
      (match o.dst with
        | some t => findDst ops t == some i
        | none => true)

def evAt (ev : List (Option AVal)) (j : Nat) : Option AVal := (ev[j]?).join

def opD (ops : List Oper) (Bs : List (List Nat)) (R : List AVal) (ev : List (Option AVal)) (i : Nat) : Operand → Option AVal
  | .tmp t =>
    match R[t]?, findDst ops t with
    | some r, none => some r
    | some r, some j => if (Bs.getD i []).contains j then evAt ev j else if j == i || (Bs.getD j []).contains i then some r else none
    | none, _ => none
  | o => opR R o

def gAt (ops : List Oper) (Bs : List (List Nat)) (R : List AVal) (ev : List (Option AVal)) (i : Nat) (o : Oper) : Option Bool :=
  match o.guard with
  | none => some true
  | some (g, want) =>
    match (ops[g]?).bind (·.dst) with
    | some d => if (Bs.getD i []).contains g && (R[d]?).isSome then (evAt ev g).map (isB want) else none
    | none => none

def quietVal (P : Program) (K : Fix) (ops : List Oper) (Bs : List (List Nat)) (R : List AVal) (ev : List (Option AVal)) (S : St) (i : Nat) (o : Oper) : Option AVal :=
  match gAt ops Bs R ev i o with
  | some false => some uv
  | some true => if isW o then none else aread P K S (opD ops Bs R ev i) o
  | none => none

def ready (Bs : List (List Nat)) (ev : List (Option AVal)) (i : Nat) : Bool := (Bs.getD i []).all fun j => (evAt ev j).isSome

def satStep (P : Program) (K : Fix) (ops : List Oper) (Bs : List (List Nat)) (R : List AVal) (S : St) (ev : List (Option AVal)) (i : Nat) : List (Option AVal) :=
  match evAt ev i, ops[i]? with
  | none, some o => if ready Bs ev i then (match quietVal P K ops Bs R ev S i o with
      | some v => ev.set i (some v)
      | none => ev) else ev
  | _, _ => ev

def saturate (P : Program) (K : Fix) (ops : List Oper) (Bs : List (List Nat)) (R : List AVal) (S : St) (ev : List (Option AVal)) : List (Option AVal) :=
  (List.range ops.length).foldl (satStep P K ops Bs R S) ev

def goChk (P : Program) (K : Fix) (ops : List Oper) (Bs : List (List Nat)) (R : List AVal) (S : St) (ex : List Nat) (ev : List (Option AVal)) : Bool :=
  (List.range ops.length).all fun i =>
    match ops[i]? with
    | none => false
    | some o =>
      match evAt ev i with
      | some v => ex.contains i || (match quietVal P K ops Bs R ev S i o with
          | some u => beqA v u
          | none => false)
      | none => !(ready Bs ev i) || (gAt ops Bs R ev i o == some true && isW o)

def finR (ops : List Oper) (R : List AVal) (ev : List (Option AVal)) : List AVal :=
  R.mapIdx fun t r => match findDst ops t with
    | some j => (evAt ev j).getD r
    | none => r

/-- What is held meanwhile, of values that are known so far. -/
def evList (ev : List (Option AVal)) : List AVal := ev.map fun o => o.getD uv
def evBack (ev : List (Option AVal)) (l : List AVal) : List (Option AVal) := List.zipWith (fun o v => o.map fun _ => v) ev l

def drawGo (P : Program) (K : Fix) (ext call : CallF) (ops : List Oper) (Bs : List (List Nat)) : Nat → List Nat → List (Option AVal) → List AVal → St → Option (List (List AVal × St))
  | 0, _, _, _, _ => none
  | m + 1, ex, ev, R, S =>
    if goChk P K ops Bs R S ex ev = true then
      match (List.range ops.length).filter fun i => (evAt ev i).isNone && ready Bs ev i with
      | [] => if (List.range ops.length).all (fun i => (evAt ev i).isSome) = true then some [(finR ops R ev, S)] else none
      | i0 :: is0 => bindAll (fun i =>
        match ops[i]? with
        | none => none
        | some o =>
          (aeff P ext call S [R, evList ev] (opD ops Bs R ev i) o).bind (bindAll fun p =>
            match p.2.1 with
            | [R', l] => if l.length = ev.length then drawGo P K ext call ops Bs m (i :: (Bs.getD i [] ++ ex)) (saturate P K ops Bs R' p.2.2 ((evBack ev l).set i (some p.1))) R' p.2.2 else none
            | _ => none)) (i0 :: is0)
    else none

def adraw (P : Program) (K : Fix) (ext call : CallF) (ops : List Oper) (R : List AVal) (S : St) : Option (List (List AVal × St)) :=
  let Bs := predsOf ops
  if drawChk ops Bs = true then
    drawGo P K ext call ops Bs (ops.length + 1) [] (saturate P K ops Bs R S (List.replicate ops.length none)) R S
  else none

end Go.Eng
