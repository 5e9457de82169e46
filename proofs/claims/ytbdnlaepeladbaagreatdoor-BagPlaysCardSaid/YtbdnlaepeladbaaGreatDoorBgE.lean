/- The acts as plain calls; the document's Count, Without, Enter and Unlist. Conditions: how both bags lie in memory. -/
import Derived.Test.YtbdnlaepeladbaaGreatDoorBgD
import Derived.Laws.OwnMore
import Derived.Deep.Cut
import Derived.Deep.CutBlock
import Derived.Deep.DeepCutAuto
import Derived.BigQuiet
import Derived.Laws.AppendOwnNone
set_option linter.unusedSimpArgs false
set_option linter.unusedVariables false
namespace Go.Proofs.YtbdnlaepeladbaaGreatDoor
open Go.ChangeShapes Go.WideShapes Go.ChangeAt Go.RowKit Go.Eng

/-! ### the bag's acts, told by rows -/

def bagOb : Objs where
  fmt := fun k => if k = 2 then .list [.int .u64] false else if k = 3 then .list fiveK false else .other
  cus := fun k => if k = 1 then BagR else fun _ _ _ _ _ => False
  fn := fnBag
  lkind := fun _ => none
  mkind := fun _ => none
  cframe := fun k v gs w w' D R h hf => by
    by_cases hk : k = 1
    · rw [if_pos hk] at h ⊢; exact BagR.frame v gs w w' D R h hf
    · rw [if_neg hk] at h; exact h.elim

theorem bagOb_ok : BagOb bagOb where
  f1 := rfl
  c1 := fun _ _ _ _ _ => rfl
  f2 := rfl
  f3 := rfl
  fn := fun _ _ _ => rfl

def K0 (w : World) : Fix := ⟨fun _ => none, 0, w, (fun g l h => by cases h), bagOb, fun _ => none⟩
theorem K0_ok (w : World) : BagOb (K0 w).ob := bagOb_ok
def E0 (l : List U) : Env := ⟨fun _ => none, fun _ => none, fun n => l[n]?, fnBag, fun _ _ => False, fun _ _ => False⟩
theorem E0_var {l : List U} : ∀ n, ((E0 l).var n).isSome → n < l.length := fun n h => by
  have : (l[n]?).isSome := h
  obtain ⟨x, hx⟩ := Option.isSome_iff_exists.1 this
  exact (List.getElem?_eq_some_iff.1 hx).1

def PBg (v : World) (b : Nat) (ns : List Int) (B : List (List Int)) (D R : Nat → Prop) : Prop :=
  (∃ m L es, BagI b m L es ns B v D R) ∧ (∀ c, D c → c < v.heap.size) ∧ ∀ c, R c → c < v.heap.size ∧ ¬ D c

variable {w w' : World} {b : Nat} {ns ns' : List Int} {B B' : List (List Int)} {D R : Nat → Prop}

theorem PBg.below (h : PBg w b ns B D R) (hb : Below w.heap.size w w') : PBg w' b ns B D R := by
  obtain ⟨⟨m, L, es, h1⟩, h2, h3⟩ := h
  refine ⟨⟨m, L, es, h1.same fun c hc => hb.block c ?_⟩, fun c hc => Nat.lt_of_lt_of_le (h2 c hc) hb.size, fun c hc => ⟨Nat.lt_of_lt_of_le (h3 c hc).1 hb.size, (h3 c hc).2⟩⟩
  rcases hc with hc | hc
  · exact h2 c hc
  · exact (h3 c hc).1

/-- Another bag is changed. -/
theorem PBg.upto {S : Nat → Prop} (h : PBg w b ns B D R) (hu : Upto0 S w w') (hS : ∀ c, S c → ¬ D c ∧ ¬ R c) : PBg w' b ns B D R := by
  obtain ⟨⟨m, L, es, h1⟩, h2, h3⟩ := h
  refine ⟨⟨m, L, es, h1.same fun c hc => hu.block c ?_ fun hs => ?_⟩, fun c hc => Nat.lt_of_lt_of_le (h2 c hc) hu.size, fun c hc => ⟨Nat.lt_of_lt_of_le (h3 c hc).1 hu.size, (h3 c hc).2⟩⟩
  · rcases hc with hc | hc
    · exact h2 c hc
    · exact (h3 c hc).1
  · rcases hc with hc | hc
    · exact (hS c hs).1 hc
    · exact (hS c hs).2 hc

/-- What an act leaves. -/
def ActOut (w : World) (b : Nat) (ns' : List Int) (B' : List (List Int)) (D R : Nat → Prop) (w' : World) : Prop :=
  ∃ D' R', PBg w' b ns' B' D' R' ∧ Upto0 D w w' ∧ (∀ c, D' c → D c ∨ w.heap.size ≤ c) ∧ ∀ c, R' c → R c ∨ w.heap.size ≤ c

theorem oneRows_inj : ∀ {a c : List Int}, oneRows a = oneRows c → a = c
  | [], [], _ => rfl
  | [], _ :: _, h => by simp [oneRows] at h
  | _ :: _, [], h => by simp [oneRows] at h
  | x :: a, y :: c, h => by
    simp only [oneRows, List.map_cons, List.cons.injEq, and_true] at h
    rw [h.1, oneRows_inj (a := a) (c := c) h.2]

theorem use1 (h : PBg w b ns B D R) {s : Eng.Spec} (hs : SpecOk Tryz.prog (K0 w) s) (hr : s.recv = some 1) (hz : s.nn = 0) {us : List U} {ts : List Tm} {xs : List Value} {E : Env} (hE : E = E0 (.rows B :: .rows (oneRows ns) :: us))
    (hargs : ArgRs (K0 w) E w D R s.args ts xs) (hneed : NeedR E (s.need [.var 0, .var 1] ts)) {t1 t2 : Tm} (hgs : s.gs' [.var 0, .var 1] ts (us.length + 2) = [t1, t2]) (d1 : t1.den E = some (.rows B')) (d2 : t2.den E = some (.rows (oneRows ns'))) :
    Calls Tryz.prog s.f (.pointer (some ⟨b, 0, none⟩) :: xs).toArray w fun e w' => ∃ y, e = .returned y ∧ VR (E.ext (us.length + 2) []) (s.res [.var 0, .var 1] ts (us.length + 2)) y ∧ ActOut w b ns' B' D R w' := by
  obtain ⟨⟨m, L, es, h1⟩, h2, h3⟩ := h
  have hv : ∀ n, (E.var n).isSome → n < us.length + 2 := by rw [hE]; exact E0_var
  have hfn : E.fn = (K0 w).ob.fn := by rw [hE]; rfl
  have hd : dens E [.var 0, .var 1] = some [.rows B, .rows (oneRows ns)] := by rw [hE]; rfl
  refine (hs E (us.length + 2) [.var 0, .var 1] ts [.pointer (some ⟨b, 0, none⟩)] (.pointer (some ⟨b, 0, none⟩)) xs w D R R hfn hv ?_ h2 h3 (fun _ hc => hc) hargs hneed).mono ?_
  · rw [hr]
    exact ⟨rfl, ⟨_, rfl⟩, _, hd, bag_obj (K0_ok w) ⟨b, m, L, es, ns, B, rfl, rfl, h1⟩⟩
  · rintro e w' ⟨y, us', D', R', Dn, Rn, he, hp⟩
    have h0 : us' = [] := List.length_eq_zero_iff.1 (by rw [hp.len, hz])
    subst h0
    obtain ⟨gU, g1, g2⟩ := hp.recv 1 hr
    obtain ⟨b', m', L', es', ns2, B2, e1, e2, hI⟩ := bag_open (K0_ok w) g2
    simp only [Value.pointer.injEq, Option.some.injEq, Addr.mk.injEq, and_true] at e1
    subst e1
    have hle : E.Le (E.ext (us.length + 2) []) := ext_le hv
    rw [hgs] at g1
    have hdd : dens (E.ext (us.length + 2) []) [t1, t2] = some [.rows B', .rows (oneRows ns')] := by
      simp only [dens, Tm.den_mono hle _ _ d1, Tm.den_mono hle _ _ d2]
    rw [hdd, e2] at g1
    simp only [Option.some.injEq, List.cons.injEq, U.rows.injEq, and_true] at g1
    obtain ⟨g1, g3⟩ := g1
    have g4 := oneRows_inj g3
    subst g1 g4
    exact ⟨y, he, hp.res, D', R', ⟨⟨m', L', es', hI⟩, fun c hc => (hp.dd c hc).2, fun c hc => (hp.rr c hc).2⟩, hp.upto, (fun c hc => (hp.dd c hc).1), fun c hc => (hp.rr c hc).1⟩

theorem arg_nil {K : Fix} {E : Env} : ArgRs K E w D R [] [] [] := by simp only [ArgRs]; exact ⟨trivial, trivial⟩
theorem arg_int {K : Fix} {E : Env} {k : IntKind} {ks : List ArgK} {t : Tm} {ts : List Tm} {z : Int} {xs : List Value} (hd : t.den E = some (.int z)) (hw : (Lit.int k z).wf = true) (h : ArgRs K E w D R ks ts xs) : ArgRs K E w D R (.int k :: ks) (t :: ts) (.int k z :: xs) := by
  simp only [ArgRs, ArgR]
  exact ⟨[t], ts, _, xs, rfl, ⟨t, z, rfl, hd, hw, rfl⟩, h, rfl⟩

theorem vr_int_of {E : Env} {nv : Nat} (hv : ∀ n, (E.var n).isSome → n < nv) {k : IntKind} {t : Tm} {y : Value} {z : Int} (h : VR (E.ext nv []) (.tm (.int k) t) y) (hd : t.den E = some (.int z)) : y = .int k z := by
  simp only [VR, TR] at h
  obtain ⟨z', h1, h2, h3⟩ := h
  rw [Tm.den_mono (ext_le hv) _ _ hd] at h1
  simp only [Option.some.injEq, U.int.injEq] at h1
  rw [h3, h1]
theorem vr_bool_of {E : Env} {nv : Nat} (hv : ∀ n, (E.var n).isSome → n < nv) {t : Tm} {y : Value} {z : Bool} (h : VR (E.ext nv []) (.tm .bool t) y) (hd : t.den E = some (.bool z)) : y = .bool z := by
  simp only [VR, TR] at h
  obtain ⟨z', h1, h3⟩ := h
  rw [Tm.den_mono (ext_le hv) _ _ hd] at h1
  simp only [Option.some.injEq, U.bool.injEq] at h1
  rw [h3, h1]

theorem need_nil {E : Env} : NeedR E (some []) := ⟨[], rfl, fun p hp => by cases hp⟩

theorem penter (h : PBg w b ns B D R) {id st now : Int} (h1 : (Lit.int .u64 id).wf = true) (h2 : (Lit.int .i64 st).wf = true) (h3 : (Lit.int .u64 now).wf = true) :
    Calls Tryz.prog 41 #[.pointer (some ⟨b, 0, none⟩), .int .u64 id, .int .i64 st, .int .u64 now] w fun e w' => e = .returned (.int .i64 (enterE B id st)) ∧ ActOut w b ns (enterB B id st now) D R w' := by
  refine (use1 h (s := spEnter) (enter_spec (K0_ok w)) rfl rfl (us := [.int id, .int st, .int now]) (ts := [.var 2, .var 3, .var 4]) rfl (arg_int rfl h1 (arg_int rfl h2 (arg_int rfl h3 arg_nil))) need_nil (B' := enterB B id st now) (ns' := ns) (t1 := .app 101 [.var 0, .var 2, .var 3, .var 4]) (t2 := .var 1) rfl (den4 rfl rfl rfl rfl (appF_rows (by decide) rfl (enterB_length _ _ _ _))) rfl).mono ?_
  rintro e w' ⟨y, rfl, hy, ho⟩
  exact ⟨by rw [vr_int_of E0_var hy (den3 rfl rfl rfl (appF_int (by decide) rfl))], ho⟩

theorem pproved (h : PBg w b ns B D R) {id now : Int} (h1 : (Lit.int .u64 id).wf = true) (h3 : (Lit.int .u64 now).wf = true) :
    Calls Tryz.prog 36 #[.pointer (some ⟨b, 0, none⟩), .int .u64 id, .int .u64 now] w fun e w' => e = .returned (.int .i64 (knownE B id)) ∧ ActOut w b ns (provedB B id now) D R w' := by
  refine (use1 h (s := spProved) (proved_spec (K0_ok w)) rfl rfl (us := [.int id, .int now]) (ts := [.var 2, .var 3]) rfl (arg_int rfl h1 (arg_int rfl h3 arg_nil)) need_nil (B' := provedB B id now) (ns' := ns) (t1 := .app 108 [.var 0, .var 2, .var 3]) (t2 := .var 1) rfl (den3 rfl rfl rfl (appF_rows (by decide) rfl (provedB_length _ _ _))) rfl).mono ?_
  rintro e w' ⟨y, rfl, hy, ho⟩
  exact ⟨by rw [vr_int_of E0_var hy (den2 rfl rfl (appF_int (by decide) rfl))], ho⟩

theorem pswap (h : PBg w b ns B D R) {id old st now : Int} (h1 : (Lit.int .u64 id).wf = true) (h2 : (Lit.int .u64 old).wf = true) (h3 : (Lit.int .i64 st).wf = true) (h4 : (Lit.int .u64 now).wf = true) :
    Calls Tryz.prog 33 #[.pointer (some ⟨b, 0, none⟩), .int .u64 id, .int .u64 old, .int .i64 st, .int .u64 now] w fun e w' => e = .returned (.tuple #[.int .u64 (swapW B id old st), .bool (swapOk B id old st)]) ∧ ActOut w b ns (swapB B id old st now) D R w' := by
  refine (use1 h (s := spSwap) (swap_spec (K0_ok w)) rfl rfl (us := [.int id, .int old, .int st, .int now]) (ts := [.var 2, .var 3, .var 4, .var 5]) rfl (arg_int rfl h1 (arg_int rfl h2 (arg_int rfl h3 (arg_int rfl h4 arg_nil)))) need_nil (B' := swapB B id old st now) (ns' := ns) (t1 := .app 104 [.var 0, .var 2, .var 3, .var 4, .var 5]) (t2 := .var 1) rfl (den5 rfl rfl rfl rfl rfl (appF_rows (by decide) rfl (swapB_length _ _ _ _ _))) rfl).mono ?_
  rintro e w' ⟨y, rfl, hy, ho⟩
  simp only [spSwap, VR, VRs] at hy
  obtain ⟨xs, ⟨x, r, g1, ⟨x2, r2, g2, rfl, rfl⟩, rfl⟩, rfl⟩ := hy
  have e1 := vr_int_of E0_var (by simp only [VR]; exact g1) (den4 rfl rfl rfl rfl (appF_int (by decide) rfl))
  have e2 := vr_bool_of E0_var (by simp only [VR]; exact g2) (den4 rfl rfl rfl rfl (appF_bool (by decide) rfl))
  exact ⟨by rw [e1, e2], ho⟩

theorem oneRows_len (l : List Int) : (oneRows l).length = l.length := by simp [oneRows]

theorem ppublish (h : PBg w b ns B D R) (hn : ns.length < 100000) {id : Int} (h1 : (Lit.int .u64 id).wf = true) :
    Calls Tryz.prog 34 #[.pointer (some ⟨b, 0, none⟩), .int .u64 id] w fun e w' => e = .returned (.int .i64 (knownE B id)) ∧ ActOut w b (if (rfind id B).isSome then withL ns id else ns) B D R w' := by
  refine (use1 h (s := spPublish) (publish_spec (K0_ok w)) rfl rfl (us := [.int id]) (ts := [.var 2]) rfl (arg_int rfl h1 arg_nil) ⟨_, rfl, fun p hp r hr => ?_⟩ (B' := B) (ns' := if (rfind id B).isSome then withL ns id else ns) (t1 := .var 0) (t2 := .app 105 [.var 1, .var 0, .var 2]) rfl rfl (den3 rfl rfl rfl (appF_rows (by decide) ?_ ?_))).mono ?_
  · simp only [List.mem_cons, List.not_mem_nil, or_false] at hp
    subst hp
    have : (Tm.var 1).den (E0 [.rows B, .rows (oneRows ns), .int id]) = some (.rows (oneRows ns)) := rfl
    rw [this] at hr
    simp only [Option.some.injEq, U.rows.injEq] at hr
    subst hr
    rw [oneRows_len]; exact hn
  · show some (U.rows (publishL (oneRows ns) B id)) = _
    congr 2
    unfold publishL; split
    · rw [oneRows_with]
    · rfl
  · rw [oneRows_len, oneRows_len]; split
    · have := withL_length ns id; omega
    · omega
  · rintro e w' ⟨y, rfl, hy, ho⟩
    exact ⟨by rw [vr_int_of E0_var hy (den2 rfl rfl (appF_int (by decide) rfl))], ho⟩

theorem punlist (h : PBg w b ns B D R) (hn : ns.length < 100000) {id : Int} (h1 : (Lit.int .u64 id).wf = true) :
    Calls Tryz.prog 39 #[.pointer (some ⟨b, 0, none⟩), .int .u64 id] w fun e w' => e = .returned (.int .i64 (knownE B id)) ∧ ActOut w b (if (rfind id B).isSome then woL ns id else ns) B D R w' := by
  have hnd : ns.Nodup := by obtain ⟨⟨m, L, es, h1⟩, _⟩ := h; exact h1.nodup
  refine (use1 h (s := spUnlist) (unlist_spec (K0_ok w)) rfl rfl (us := [.int id]) (ts := [.var 2]) rfl (arg_int rfl h1 arg_nil) ⟨_, rfl, fun p hp r hr => ?_⟩ (B' := B) (ns' := if (rfind id B).isSome then woL ns id else ns) (t1 := .var 0) (t2 := .app 112 [.var 1, .var 0, .var 2]) rfl rfl (den3 rfl rfl rfl (appF_rows (by decide) ?_ ?_))).mono ?_
  · simp only [List.mem_cons, List.not_mem_nil, or_false] at hp
    subst hp
    have : (Tm.var 1).den (E0 [.rows B, .rows (oneRows ns), .int id]) = some (.rows (oneRows ns)) := rfl
    rw [this] at hr
    simp only [Option.some.injEq, U.rows.injEq] at hr
    subst hr
    rw [oneRows_len]; exact hn
  · show some (U.rows (unlistL (oneRows ns) B id)) = _
    congr 2
    unfold unlistL; split
    · rw [oneRows_wo hnd]
    · rfl
  · rw [oneRows_len, oneRows_len]; split
    · have : (woL ns id).length ≤ ns.length := List.length_erase_le
      omega
    · omega
  · rintro e w' ⟨y, rfl, hy, ho⟩
    exact ⟨by rw [vr_int_of E0_var hy (den2 rfl rfl (appF_int (by decide) rfl))], ho⟩

theorem pload (h : PBg w b ns B D R) (id : Int) :
    Calls Tryz.prog 32 #[.pointer (some ⟨b, 0, none⟩), .int .u64 id] w fun e w' => e = .returned (.tuple #[.int .u64 (wordR B id), .bool (rfind id B).isSome]) ∧ Below w.heap.size w w' := by
  obtain ⟨⟨m, L, es, h1⟩, h2, h3⟩ := h
  cases hid : aget id es with
  | none =>
    have := h1.no id hid
    rw [this]
    refine (load_none h1.bag id hid).mono ?_
    rintro e w' ⟨rfl, hb⟩
    exact ⟨by unfold wordR; rw [this]; rfl, hb⟩
  | some p =>
    obtain ⟨x, hx, hr⟩ := h1.ent id p hid
    refine (load_some h1.bag id hid hx).mono ?_
    rintro e w' ⟨rfl, hb⟩
    exact ⟨by unfold wordR; rw [hr]; rfl, hb⟩

theorem pnew (w : World) : Calls Tryz.prog 30 #[] w fun e w' => ∃ b D R, e = .returned (.pointer (some ⟨b, 0, none⟩)) ∧ PBg w' b [] [] D R ∧ (∀ c, D c → w.heap.size ≤ c) ∧ (∀ c, ¬ R c) ∧ Below w.heap.size w w' := by
  refine (new_calls w).mono ?_
  rintro e w' ⟨b, m, rfl, hb, hm, hbm, hbag, hw⟩
  refine ⟨b, fun c => c = b ∨ c = m, fun _ => False, rfl, ⟨⟨m, .slice none 0 0, [], ?_⟩, ?_, fun c hc => hc.elim⟩, ?_, fun _ h => h, hw⟩
  · exact ⟨hbag, .inl ⟨rfl, rfl⟩, hbm, .nil, .nil, fun _ _ => rfl, fun id p hp => by simp [aget] at hp, fun i j p q hp => by simp [aget] at hp, fun r hr => (List.not_mem_nil hr).elim, .nil, fun n hn => (List.not_mem_nil hn).elim, rfl, .inl rfl, .inr rfl, fun id p hp => by simp [aget] at hp, fun g o n c e => by cases e⟩
  · rintro c (rfl | rfl)
    · exact hbag.lt.1
    · exact hbag.lt.2
  · rintro c (rfl | rfl)
    · exact hb
    · exact hm

end Go.Proofs.YtbdnlaepeladbaaGreatDoor

namespace Go.Proofs.YtbdnlaepeladbaaGreatDoor
open Go.ChangeShapes Go.WideShapes Go.ChangeAt Go.RowKit Go.Eng

/-- How many are in a state. -/
def countB (B : List (List Int)) (s : Int) : Nat := (B.filter fun r => r.tail.headD 0 % 4 == s).length
theorem countB_step {B : List (List Int)} {k : Nat} {r : List Int} (h : B[k]? = some r) (s : Int) : countB (B.take (k + 1)) s = countB (B.take k) s + cond (r.tail.headD 0 % 4 == s) 1 0 := by
  obtain ⟨h1, h2⟩ := List.getElem?_eq_some_iff.1 h
  unfold countB
  rw [List.take_add_one, h, List.filter_append, List.length_append]
  simp only [Option.toList]
  by_cases hq : (r.tail.headD 0 % 4 == s) = true
  · rw [List.filter_cons, List.filter_nil, if_pos hq, hq]; rfl
  · rw [List.filter_cons, List.filter_nil, if_neg hq, (by simpa using hq : (r.tail.headD 0 % 4 == s) = false)]; rfl
theorem countB_le (B : List (List Int)) (s : Int) : countB B s ≤ B.length := List.length_filter_le _ _

set_option maxHeartbeats 2000000 in
set_option maxRecDepth 1000000 in
theorem rcount_some {w : World} {b off cap : Nat} {l : List (List Int)} (h : LstAt fiveK w (.slice (some ⟨b, off, none⟩) l.length cap) l) (hm : l.length ≤ 100000) (a2 : Option Addr) (n2 c2 : Nat) (s : Int) :
    Calls Tryz.prog 108 #[.agg #[.slice (some ⟨b, off, none⟩) l.length cap, .slice a2 n2 c2], .int .i64 s] w fun e w' => e = .returned (.int .i64 (countB l s)) ∧ Below w.heap.size w w' := by
  have HB := aside_of ((Below.refl w.heap.size w).alloc (Nat.le_refl _) (.cells #[.slice (some ⟨b, off, none⟩) l.length cap, .slice a2 n2 c2] 61))
  have C : Aside (∀ {v : World}, Below w.heap.size w v → LstAt fiveK v (.slice (some ⟨b, off, none⟩) l.length cap) l) := fun hb => h.below hb
  have W5 : Aside (∀ {k : Nat} {row : List Int}, l[k]? = some row → colWfs fiveK row = true) := fun hk => (h.row hk).1
  obtain ⟨n, hn⟩ : ∃ n, n = l.length := ⟨_, rfl⟩
  have HN : Aside (n = l.length) := hn
  rw [← hn] at hm HB ⊢
  clear h hn
  go_enter Tryz.func108, Tryz.ntmps108
  go_wp2
  go_loopg [5, 11] n (fun gh v5 v11 wx => ∃ k : Nat, k ≤ n ∧ gh = n - k ∧ v11 = .int .i64 k ∧ v5 = .int .i64 (countB (l.take k) s : Nat) ∧ Aside (Below w.heap.size w wx))
  case atStart => exact ⟨0, Nat.zero_le _, rfl, rfl, rfl, HB⟩
  case round =>
    obtain ⟨k, hk, rfl, rfl, rfl, hb⟩ := hrel
    by_cases hlt : k < n
    · obtain ⟨row, hp⟩ : ∃ row, l[k]? = some row := ⟨_, List.getElem?_eq_getElem (by rw [← HN.out]; exact hlt)⟩
      obtain ⟨x0, x1, x2, x3, x4, rfl, _, w1, _⟩ := five_row (W5.out hp)
      obtain ⟨c0, c1, c2', c3, c4⟩ := (C.out hb.out).five hp
      obtain ⟨n1, rfl, hn1⟩ := u64n w1
      obtain ⟨q, hq⟩ : ∃ q : Int, q = (n1 : Int) % 4 := ⟨_, rfl⟩
      have hstep := aside_of (countB_step hp s)
      have hle := aside_of (countB_le (l.take k) s)
      have HB2 : Aside (∀ o : Obj, Below w.heap.size w (wr.alloc o)) := fun o => hb.out.alloc hb.out.size o
      have hki : (k : Int) < (n : Int) := by omega
      have h63 : (countB (l.take k) s : Int) + 1 < 9223372036854775808 := by
        have := hle.out
        have h2 : (l.take k).length ≤ k := List.length_take_le _ _
        omega
      have h4 : ¬ ((n1 : Int) % 4 < 0) := by omega
      have hw1 : wrap64 ((n1 : Int) % 4) = (n1 : Int) % 4 := by unfold wrap64; omega
      simp only [List.tail_cons, List.headD_cons] at hstep
      clear hp w1
      by_cases e : (n1 : Int) % 4 = s
      · have e' : ((n1 : Int) % 4 == s) = true := by simpa using e
        have hstep' : countB (l.take (k + 1)) s = countB (l.take k) s + 1 := by
          have := hstep.out
          rw [e'] at this
          exact this
        have HS := aside_of hstep'
        clear hstep hstep'
        go_wp2
        go_roundg (n - (k + 1))
        case measure => omega
        case rel => exact ⟨k + 1, by omega, rfl, by go_num, by rw [HS.out]; go_num, aside_of (HB2.out _)⟩
      · have e' : ((n1 : Int) % 4 == s) = false := by simpa using e
        have hstep' : countB (l.take (k + 1)) s = countB (l.take k) s := by
          have := hstep.out
          rw [e'] at this
          exact this
        have HS := aside_of hstep'
        clear hstep hstep'
        go_wp2
        go_roundg (n - (k + 1))
        case measure => omega
        case rel => exact ⟨k + 1, by omega, rfl, by go_num, by rw [HS.out], aside_of (HB2.out _)⟩
    · obtain rfl : k = n := by omega
      have ht := aside_of (show countB (l.take k) s = countB l s by rw [show k = l.length by have := HN.out; omega, List.take_length])
      go_wp2
      go_ret
      exact ⟨by rw [ht.out]; rfl, hb.out⟩

theorem rcount_nil {w : World} (a2 : Option Addr) (n2 c2 : Nat) (s : Int) :
    Calls Tryz.prog 108 #[.agg #[.slice none 0 0, .slice a2 n2 c2], .int .i64 s] w fun e w' => e = .returned (.int .i64 (countB [] s)) ∧ Below w.heap.size w w' := by
  have b1 : Below w.heap.size w (w.alloc (.cells #[.slice none 0 0, .slice a2 n2 c2] 61)) := (Below.refl _ w).alloc (Nat.le_refl _) _
  go_enter Tryz.func108, Tryz.ntmps108
  go_wp2
  refine wp_loop_rounds 1 ?_
  rw [rounds_succ]
  go_wp2
  go_ret
  exact ⟨rfl, b1⟩

theorem rcount_calls {w : World} {v : Value} {l : List (List Int)} (h : LstAt fiveK w v l) (hm : l.length ≤ 100000) (a2 : Option Addr) (n2 c2 : Nat) (s : Int) :
    Calls Tryz.prog 108 #[.agg #[v, .slice a2 n2 c2], .int .i64 s] w fun e w' => e = .returned (.int .i64 (countB l s)) ∧ Below w.heap.size w w' := by
  rcases h.shape with ⟨rfl, rfl⟩ | ⟨b, off, cap, rfl, _⟩
  · exact rcount_nil a2 n2 c2 s
  · exact rcount_some h hm a2 n2 c2 s

/-! ### Without -/

theorem bown_shape {w : World} {base size n : Nat} {e : TypeId} {v : Value} {xs : List Value} (h : w.ownsRow base e size v n xs) : ∃ a c, v = .slice a n c := by
  rcases h.2 with ⟨rfl, h0⟩ | ⟨g, cap, cur, rfl, _⟩
  · exact ⟨none, 0, by rw [h0]⟩
  · exact ⟨some ⟨g, 0, none⟩, cap, rfl⟩

theorem bown_one (w : World) (x : Value) (e : TypeId) : ∀ (j : Nat) (u : Value), [x][j]? = some u → (w.alloc (.cells #[x] e)).cell? ((⟨w.heap.size, 0, none⟩ : Addr).add j) = some u := by
  intro j u hj
  match j with
  | 0 => simp at hj; subst hj; simp [Addr.add]
  | j + 1 => simp at hj

theorem bgrown_own {w w' : World} {base n size : Nat} {e : TypeId} {v : Value} {xs : List Value} (hb : base ≤ w.heap.size) (h : w.ownsRow base e size v n xs) (hg : w.grownBy w' v.ownBlock) : Below base w w' :=
  (Below.refl base w).grown hg hb fun k hk => (World.ownsRow.lt h k hk).1

def woR (l : List (List Int)) (id : Int) : List (List Int) := l.filter fun r => r != [id]
theorem woR_step {l : List (List Int)} {k : Nat} {x : Int} (h : l[k]? = some [x]) (id : Int) : woR (l.take (k + 1)) id = woR (l.take k) id ++ cond (x == id) [] [[x]] := by
  unfold woR
  rw [List.take_add_one, h, List.filter_append]
  simp only [Option.toList]
  by_cases hq : x = id
  · subst hq
    simp
  · have : (x == id) = false := by simpa using hq
    rw [this]
    simp [hq]
theorem woR_le (l : List (List Int)) (id : Int) : (woR l id).length ≤ l.length := List.length_filter_le _ _

set_option maxHeartbeats 2000000 in
set_option maxRecDepth 1000000 in
theorem rwo_some {w : World} {b off cap : Nat} {l : List (List Int)} (h : LstAt [.int .u64] w (.slice (some ⟨b, off, none⟩) l.length cap) l) (hm : l.length ≤ 100000) (id : Int) :
    Calls Tryz.prog 104 #[.slice (some ⟨b, off, none⟩) l.length cap, .int .u64 id] w fun e w' => ∃ v', e = .returned v' ∧ LstAt [.int .u64] w' v' (woR l id) ∧ NewV w v' ∧ Below w.heap.size w w' := by
  obtain ⟨i0, hi0, hz0, hz1, hz2⟩ := info_parts infoW1
  have C : Aside (∀ {v : World}, Below w.heap.size w v → LstAt [.int .u64] v (.slice (some ⟨b, off, none⟩) l.length cap) l) := fun hb => h.below hb
  have W5 := aside_of h.wfs
  obtain ⟨n, hn⟩ : ∃ n, n = l.length := ⟨_, rfl⟩
  have HN : Aside (n = l.length) := hn
  rw [← hn] at hm ⊢
  clear h hn
  go_enter Tryz.func104, Tryz.ntmps104
  go_wp2
  go_loopg [5, 10] n (fun gh v5 v10 wx => ∃ k m : Nat, k ≤ n ∧ gh = n - k ∧ m ≤ k ∧ v10 = .int .i64 k ∧ Aside (m = (woR (l.take k) id).length) ∧ wx.ownsRow w.heap.size 22 1 v5 m (flatV [.int .u64] (woR (l.take k) id)) ∧ Below w.heap.size w wx)
  case atStart => exact ⟨0, 0, Nat.zero_le _, rfl, Nat.le_refl _, rfl, rfl, World.ownsRow_nil _ _ 22 1, Below.refl _ _⟩
  case round =>
    obtain ⟨k, m, hk, rfl, hmk, rfl, hml, hown, hb⟩ := hrel
    obtain ⟨a5, c5, rfl⟩ := bown_shape hown
    have HO := aside_of (And.intro hown hb)
    clear hown
    by_cases hlt : k < n
    · obtain ⟨row, hp⟩ : ∃ row, l[k]? = some row := ⟨_, List.getElem?_eq_getElem (by rw [← HN.out]; exact hlt)⟩
      obtain ⟨x0, rfl, hwx⟩ := one_row (W5.out _ (List.mem_of_getElem? hp))
      have c0 := (C.out hb).one (k := k) hp
      have hstep := aside_of (woR_step hp id)
      have hki : (k : Int) < (n : Int) := by omega
      clear hp hb
      by_cases e : x0 = id
      · have e' : (x0 == id) = true := by simpa using e
        have hst : woR (l.take (k + 1)) id = woR (l.take k) id := by rw [hstep.out, e']; simp
        have HS := aside_of hst
        clear hst hstep
        go_wp2
        go_roundg (n - (k + 1))
        case measure => omega
        case rel => exact ⟨k + 1, m, by omega, rfl, by omega, by go_num, by rw [HS.out]; exact hml, by rw [HS.out]; exact HO.out.1, HO.out.2⟩
      · have e' : (x0 == id) = false := by simpa using e
        have hst : woR (l.take (k + 1)) id = woR (l.take k) id ++ [[x0]] := by rw [hstep.out, e']; rfl
        have HS := aside_of (And.intro hst (show (woR (l.take (k + 1)) id).length = m + 1 by rw [hst, List.length_append, hml.out]; rfl))
        clear hst hstep
        go_wp2_with (at_builtin; refine wpList_append_own _ rfl (.tmp 17) (.tmp 19) 33 rfl w.heap.size 22 i0 (.int .u64 0) 1 8 Tryz.underlying33 hi0 hz0 hz1 hz2 rfl (by decide) (.slice a5 m c5) m (flatV [.int .u64] (woR (l.take k) id)) rfl (World.ownsRow.alloc HO.out.1 _) ⟨wr.heap.size, 0, none⟩ 1 1 [.int .u64 x0] rfl rfl (bown_one _ _ _) (by simp [Value.oneCell']) (by unfold maxLen; omega) (by omega) (by have := HO.out.2.size; simp; omega) ?_; intro v7 w7 own7 gr7 _; have b7 : Below w.heap.size w w7 := (HO.out.2.alloc HO.out.2.size _).trans (bgrown_own (by have := HO.out.2.size; simp; omega) (World.ownsRow.alloc HO.out.1 _) gr7); obtain ⟨a7, c7, rfl⟩ := bown_shape own7)
        go_roundg (n - (k + 1))
        case measure => omega
        case rel =>
          refine ⟨k + 1, m + 1, by omega, rfl, by omega, by go_num, HS.out.2.symm, ?_, b7⟩
          rw [HS.out.1]
          simpa [flatV, colVs, colV] using own7
    · obtain rfl : k = n := by omega
      have HW := aside_of (show woR (l.take k) id = woR l id by rw [show k = l.length by exact HN.out, List.take_length])
      clear hb
      go_wp2
      go_ret
      have ho := HO.out.1
      rw [HW.out] at ho
      refine ⟨_, rfl, own_lst (cols := [.int .u64]) (by decide) (fun row hr => W5.out row (List.mem_filter.1 hr).1) ho (by rw [← HW.out]; exact hml.out), own_new ho (Nat.le_refl _), HO.out.2⟩

set_option maxRecDepth 1000000 in
theorem rwo_nil (w : World) (id : Int) :
    Calls Tryz.prog 104 #[.slice none 0 0, .int .u64 id] w fun e w' => e = .returned (.slice none 0 0) ∧ w' = w := by
  go_enter Tryz.func104, Tryz.ntmps104
  go_wp2
  refine wp_loop_rounds 1 ?_
  rw [rounds_succ]
  go_wp2
  go_ret
  exact ⟨rfl, rfl⟩

theorem lst_nil {cols : List TK} (w : World) : LstAt cols w (.slice none 0 0) [] := ⟨[], rfl, .inl ⟨rfl, rfl⟩⟩

theorem rwo_calls {w : World} {v : Value} {l : List (List Int)} (h : LstAt [.int .u64] w v l) (hm : l.length ≤ 100000) (id : Int) :
    Calls Tryz.prog 104 #[v, .int .u64 id] w fun e w' => ∃ v', e = .returned v' ∧ LstAt [.int .u64] w' v' (woR l id) ∧ NewV w v' ∧ Below w.heap.size w w' := by
  rcases h.shape with ⟨rfl, rfl⟩ | ⟨b, off, cap, rfl, _⟩
  · refine (rwo_nil w id).mono ?_
    rintro e w' ⟨rfl, rfl⟩
    exact ⟨_, rfl, lst_nil _, (fun g o n c e => by cases e), Below.refl _ _⟩
  · exact rwo_some h hm id

end Go.Proofs.YtbdnlaepeladbaaGreatDoor

namespace Go.Proofs.YtbdnlaepeladbaaGreatDoor
open Go.ChangeShapes Go.WideShapes Go.ChangeAt Go.RowKit Go.Eng

theorem bdrewN {B : Nat} {a b : World} (h : Below B a b) (n : Nat) : Below B a (b.drewN n) := ⟨h.os, h.tape, h.output, h.size, h.block⟩

theorem flatV_split {cols : List TK} (l : List (List Int)) (i : Nat) : flatV cols l = flatV cols (l.take i) ++ flatV cols (l.drop i) := by
  unfold flatV
  rw [← List.flatMap_append, List.take_append_drop]

/-- The place at which an id goes in. -/
def InsAt (l : List (List Int)) (id : Int) (k : Nat) : Prop := k ≤ l.length ∧ (∀ r ∈ l.take k, r.headD 0 < id) ∧ ∀ r, l[k]? = some r → ¬ r.headD 0 < id

theorem rput_ins {id : Int} {zs : List Int} : ∀ {l : List (List Int)} {k : Nat}, InsAt l id k → rfind id l = none → l.take k ++ (id :: zs) :: l.drop k = rput id zs l
  | [], k, h, _ => by simp [rput]
  | r :: l, 0, h, hn => by
    have h0 := h.2.2 r rfl
    unfold rfind at hn
    split at hn
    · cases hn
    · rename_i hne
      simp only [List.take_zero, List.drop_zero, List.nil_append]
      unfold rput
      rw [if_pos (by omega)]
  | r :: l, k + 1, h, hn => by
    have h0 := h.2.1 r (by simp)
    unfold rfind at hn
    split at hn
    · cases hn
    · have hi : InsAt l id k := ⟨by have := h.1; simp at this; omega, fun x hx => h.2.1 x (by simp [hx]), fun x hx => h.2.2 x (by simpa using hx)⟩
      have ih := rput_ins (zs := zs) hi hn
      unfold rput
      rw [if_neg (by omega), if_neg (by omega), List.take_succ_cons, List.drop_succ_cons, List.cons_append, ih]

theorem bfive (w : World) (x y z u v : Value) (e : TypeId) : ∀ (j : Nat) (a : Value), [x, y, z, u, v][j]? = some a → (w.alloc (.cells #[x, y, z, u, v] e)).cell? ((⟨w.heap.size, 0, none⟩ : Addr).add j) = some a := by
  intro j a hj
  match j with
  | 0 => simp at hj; subst hj; simp [Addr.add]
  | 1 => simp at hj; subst hj; simp [Addr.add]
  | 2 => simp at hj; subst hj; simp [Addr.add]
  | 3 => simp at hj; subst hj; simp [Addr.add]
  | 4 => simp at hj; subst hj; simp [Addr.add]
  | j + 5 => simp at hj

def EntOut (w : World) (a2 : Option Addr) (n2 c2 : Nat) (l : List (List Int)) (id st now : Int) (e : Ending) (w' : World) : Prop :=
  ∃ (k : Nat) (v' : Value), InsAt l id k ∧ e = .returned (.tuple #[.agg #[v', .slice a2 n2 c2], .int .i64 0]) ∧ LstAt fiveK w' v' (l.take k ++ [id, st, now, now, now] :: l.drop k) ∧ NewV w v' ∧ Below w.heap.size w w'

theorem ins_wf {l : List (List Int)} {k : Nat} {id st now : Int} (W5 : ∀ row ∈ l, colWfs fiveK row = true) (hid : (Lit.int .u64 id).wf = true) (hst : (Lit.int .u64 st).wf = true) (hnow : (Lit.int .u64 now).wf = true) : ∀ row ∈ l.take k ++ [id, st, now, now, now] :: l.drop k, colWfs fiveK row = true := by
  intro row hr
  rcases List.mem_append.1 hr with hr | hr
  · exact W5 row (List.mem_of_mem_take hr)
  · rcases List.mem_cons.1 hr with rfl | hr
    · simp only [fiveK, colWfs, colWf, hid, hst, hnow, Bool.and_self]
    · exact W5 row (List.mem_of_mem_drop hr)

set_option maxHeartbeats 4000000 in
set_option maxRecDepth 1000000 in
theorem renter_new {w : World} {a1 a2 : Option Addr} {c1 n2 c2 : Nat} {l : List (List Int)} (h : LstAt fiveK w (.slice a1 l.length c1) l) (hm : l.length ≤ 10000) {id st now : Int} (hid : (Lit.int .u64 id).wf = true) (hnow : (Lit.int .u64 now).wf = true) (hid0 : id ≠ 0) (hs0 : 0 ≤ st) (hs3 : st ≤ 3) (hi : ∀ i, IsAt l id i → i = -1) :
    Calls Tryz.prog 42 #[.agg #[.slice a1 l.length c1, .slice a2 n2 c2], .int .u64 id, .int .i64 st, .int .u64 now] w fun e w' => EntOut w a2 n2 c2 l id st now e w' := by
  obtain ⟨i0, hi0, hz0, hz1, hz2⟩ := info_parts info92
  have b1 : Below w.heap.size w ((w.alloc (.cells #[.slice a1 l.length c1, .slice a2 n2 c2] 61)).alloc (.cells #[.slice none 0 0, .slice none 0 0] 61)) := ((Below.refl _ w).alloc (Nat.le_refl _) _).alloc (by simp) _
  have hf := (find_calls (h.below b1) (by omega) a2 n2 c2 id).mono fun e w' (he : (∃ i : Int, e = .returned (.int .i64 i) ∧ IsAt l id i) ∧ _) => show e = .returned (.int .i64 (-1)) ∧ _ from ⟨by obtain ⟨⟨i, h1, h2⟩, _⟩ := he; rw [h1, hi i h2], he.2⟩
  have H1 := aside_of (two_bags w (.slice a1 l.length c1) (.slice a2 n2 c2) (.slice none 0 0) (.slice none 0 0))
  obtain ⟨s, rfl⟩ : ∃ s : Nat, st = s := ⟨st.toNat, by omega⟩
  have hof : ∀ v, Calls Tryz.prog 107 #[.int .i64 s, .int .u64 0] v fun e w' => e = .returned (.int .u64 s) ∧ w' = v := fun v => by
    have := rof_calls s 0 (by omega) v
    rw [show ofN s 0 = s by unfold ofN; omega] at this
    exact this
  have HL := aside_of h
  have hwst : (Lit.int .u64 (s : Int)).wf = true := by simp only [Lit.wf, Bool.and_eq_true, decide_eq_true_eq]; exact ⟨by rw [show IntKind.u64.min = 0 by decide]; omega, by rw [show IntKind.u64.max = 18446744073709551615 by decide]; omega⟩
  have HW := aside_of (ins_wf (k := 0) h.wfs hid hwst hnow)
  have HWF := aside_of (fun k => ins_wf (k := k) h.wfs hid hwst hnow)
  obtain ⟨n, hn⟩ : ∃ n, n = l.length := ⟨_, rfl⟩
  have HN : Aside (n = l.length) := hn
  rw [← hn] at hm hf H1 HL ⊢
  clear h b1 hi hn HW hwst hid hnow
  have z1 : (id == 0) = false := by simpa using hid0
  have z2 : decide ((s : Int) < 0) = false := decide_eq_false (by omega)
  have z3 : decide (3 < (s : Int)) = false := decide_eq_false (by omega)
  clear hid0 hs0 hs3
  go_enter Tryz.func42, Tryz.ntmps42
  go_upto_block 0 with (first
    | (go_at_call 99; with_reducible refine hf.mono ?_; clear hf; rintro e w2 ⟨he, b2⟩; subst he; have HB := aside_of b2; clear b2))
  have hsz : w.heap.size + 2 ≤ w2.heap.size := by have := HB.out.size; simp at this; omega
  have P2 : Aside (∀ v : World, Below w2.heap.size w2 v → v.heap[w.heap.size]? = some (.cells #[.slice a1 n c1, .slice a2 n2 c2] 61 (0, 0)) ∧ v.heap[w.heap.size + 1]? = some (.cells #[.slice none 0 0, .slice none 0 0] 61 (0, 0)) ∧ Below w.heap.size w v) := aside_of fun v hv => H1.out v (HB.out.trans (hv.mono HB.out.size))
  clear H1 HB
  go_cut [10] (fun v10 wx => ∃ k : Nat, k ≤ n ∧ v10 = .int .i64 k ∧ Aside (InsAt l id k) ∧ Aside (Below w2.heap.size w2 wx))
  case first =>
    go_wp2
    go_loopg [10] n (fun gh v10 wr => ∃ k : Nat, k ≤ n ∧ gh = n - k ∧ v10 = .int .i64 k ∧ Aside (∀ r ∈ l.take k, r.headD 0 < id) ∧ Aside (Below w2.heap.size w2 wr))
    case atStart => exact ⟨0, Nat.zero_le _, rfl, rfl, aside_of (by simp), aside_of (Below.refl _ _)⟩
    case round =>
      obtain ⟨k, hk, rfl, rfl, hlt, b3⟩ := hrel
      obtain ⟨p0, p1, pb⟩ := P2.out _ b3.out
      have r0 : wr.cell? ⟨w.heap.size, 0, none⟩ = some (.slice a1 n c1) := by simp [World.cell?, p0]
      by_cases hkn : k < n
      · obtain ⟨row, hp⟩ : ∃ row, l[k]? = some row := ⟨_, List.getElem?_eq_getElem (by rw [← HN.out]; exact hkn)⟩
        obtain ⟨b, off, rfl⟩ : ∃ b off, a1 = some ⟨b, off, none⟩ := by
          rcases HL.out.shape with ⟨e, _⟩ | ⟨b, off, cap, e, _⟩
          · simp only [Value.slice.injEq] at e; omega
          · simp only [Value.slice.injEq] at e; exact ⟨b, off, e.1⟩
        obtain ⟨x0, x1, x2, x3, x4, rfl, _⟩ := five_row (HL.out.wfs _ (List.mem_of_getElem? hp))
        obtain ⟨c0, _, _, _, _⟩ := (HL.out.below pb).five hp
        have HP := aside_of hp
        have hkn' : (k : Int) < (n : Int) := by omega
        clear hp p0 p1 pb
        by_cases h1 : x0 < id
        · have hle8 : Aside (∀ r ∈ l.take (k + 1), r.headD 0 < id) := aside_of (by
            intro q hq
            rw [List.take_add_one, HP.out] at hq
            rcases List.mem_append.1 hq with h | h
            · exact hlt.out q h
            · have : q = [x0, x1, x2, x3, x4] := by simpa using h
              rw [this]; exact h1)
          have d1 : decide (x0 < id) = true := decide_eq_true h1
          clear h1
          go_wp2
          go_roundg (n - (k + 1))
          case measure => omega
          case rel => exact ⟨k + 1, by omega, rfl, by go_num, hle8, b3⟩
        · have FI := aside_of (show InsAt l id k from ⟨by rw [← HN.out]; exact hk, hlt.out, fun q hq => by rw [HP.out] at hq; obtain rfl := Option.some.inj hq; exact h1⟩)
          have d1 : decide (x0 < id) = false := decide_eq_false h1
          clear h1
          go_wp2
          go_meet
          exact ⟨k, by omega, rfl, FI, b3⟩
      · obtain rfl : k = n := by omega
        have FI := aside_of (show InsAt l id k from ⟨by rw [← HN.out]; omega, hlt.out, fun q hq => by
          have := (List.getElem?_eq_some_iff.1 hq).1
          rw [← HN.out] at this; omega⟩)
        clear p0 p1 pb hkn
        go_wp2
        go_meet
        exact ⟨k, by omega, rfl, FI, b3⟩
  case rest =>
    obtain ⟨k, hk, rfl, HI, b3⟩ := hcut
    obtain ⟨p0, p1, pb⟩ := P2.out _ b3.out
    have r0 : wc.cell? ⟨w.heap.size, 0, none⟩ = some (.slice a1 n c1) := by simp [World.cell?, p0]
    have hszc : w.heap.size + 2 ≤ wc.heap.size := Nat.le_trans hsz b3.out.size
    have PC : Aside (∀ v : World, Below wc.heap.size wc v → v.heap[w.heap.size]? = some (.cells #[.slice a1 n c1, .slice a2 n2 c2] 61 (0, 0)) ∧ v.heap[w.heap.size + 1]? = some (.cells #[.slice none 0 0, .slice none 0 0] 61 (0, 0)) ∧ Below w.heap.size w v) := aside_of fun v hv => P2.out v (b3.out.trans (hv.mono b3.out.size))
    have FIN : Aside (∀ (v7 : World) (g7 m c7 : Nat) (A : Option Addr), Below wc.heap.size wc v7 → A = some ⟨g7, 0, none⟩ → wc.heap.size ≤ g7 → LstAt fiveK v7 (.slice A m c7) (l.take k ++ [id, (s : Int), now, now, now] :: l.drop k) → ∀ u0 u1 u2, EntOut w a2 n2 c2 l id s now (.returned (.tuple #[.agg #[.slice A m c7, .slice a2 n2 c2], .int .i64 0])) (((v7.setCell ⟨w.heap.size, 0, none⟩ u0).setCell ⟨w.heap.size + 1, 0, none⟩ u1).setCell ⟨w.heap.size + 1, 1, none⟩ u2)) := aside_of (by
      intro v7 g7 m c7 A hb hA hg hL u0 u1 u2
      subst hA
      refine ⟨k, _, HI.out, rfl, ((hL.off (by show w.heap.size ≠ g7; omega) _).off (by show w.heap.size + 1 ≠ g7; omega) _).off (by show w.heap.size + 1 ≠ g7; omega) _, fun g o m c e => ?_, ?_⟩
      · simp only [Value.slice.injEq, Option.some.injEq, Addr.mk.injEq, and_true] at e
        omega
      · exact (((PC.out _ hb).2.2.setCell (by simp) _).setCell (by simp) _).setCell (by simp) _)
    clear p0 p1 pb b3 P2 hsz
    rcases HL.out.shape with ⟨e, hl0⟩ | ⟨b, off, cap, e, hle, hcap, hbl⟩
    · simp only [Value.slice.injEq] at e
      obtain ⟨rfl, rfl, rfl⟩ := e
      obtain rfl : k = 0 := by omega
      have H0 := aside_of hl0
      clear hl0
      go_wp2_with (first
        | (at_builtin; refine wpList_append_own_none rfl (.tmp 45) (.tmp 49) 59 rfl wc.heap.size 175 i0 5 Tryz.underlying59 hi0 (.slice none 0 0) 0 [] rfl (World.ownsRow_nil wc _ 175 5) rfl ?_)
        | (go_at_call 107; with_reducible refine (hof _).mono ?_; rintro e w3 ⟨he, hw3⟩; subst he; subst hw3)
        | (at_builtin; refine wpList_append_own _ rfl (.tmp 51) (.tmp 59) 59 rfl w3.heap.size 175 i0 (.agg #[.int .u64 0, .int .u64 0, .int .u64 0, .int .u64 0, .int .u64 0]) 5 40 Tryz.underlying59 hi0 hz0 hz1 hz2 rfl (by decide) (.slice none 0 0) 0 [] rfl (World.ownsRow.alloc (World.ownsRow_nil w3 w3.heap.size 175 5) _) ⟨w3.heap.size, 0, none⟩ 1 1 [.int .u64 id, .int .u64 s, .int .u64 now, .int .u64 now, .int .u64 now] rfl rfl (bfive _ _ _ _ _ _ _) (by simp [Value.oneCell']) (by unfold maxLen; omega) (by omega) (by simp) ?_; intro v7 w7 own7 gr7 _; have b7 : Below w3.heap.size w3 w7 := ((Below.refl w3.heap.size w3).alloc (Nat.le_refl _) _).trans (bgrown_own (by simp) (World.ownsRow.alloc (World.ownsRow_nil w3 w3.heap.size 175 5) _) gr7); obtain ⟨a7, c7, rfl⟩ := bown_shape own7; have OX := aside_of (And.intro own7 b7); clear own7 b7; obtain ⟨p0, p1, pb⟩ := PC.out _ OX.out.2; obtain ⟨x0, x1, y0, y1⟩ := bag2 p0; obtain ⟨z0, z1', t0, t1⟩ := bag2 p1; clear p0 p1 pb)
        | (at_builtin; refine wpList_append_own_none rfl (.tmp 61) (.tmp 65) 59 rfl w3.heap.size 175 i0 5 Tryz.underlying59 hi0 (.slice a7 1 c7) 1 ([] ++ [.int .u64 id, .int .u64 s, .int .u64 now, .int .u64 now, .int .u64 now]) rfl OX.out.1 rfl ?_))
      obtain ⟨g7, c7', e7⟩ := own_shape OX.out.1 (by omega)
      have e7 : a7 = some ⟨g7, 0, none⟩ := by simp only [Value.slice.injEq] at e7; exact e7.1
      have hg : w3.heap.size ≤ g7 := own_new (w := w3) OX.out.1 (Nat.le_refl _) g7 0 _ c7 (by rw [e7])
      have hl : LstAt fiveK w7 (.slice a7 1 c7) (l.take 0 ++ [id, (s : Int), now, now, now] :: l.drop 0) := own_lst (cols := fiveK) (by decide) (HWF.out 0) (by rw [H0.out]; simpa [flatV, colVs, colV, fiveK] using OX.out.1) (by rw [H0.out]; rfl)
      refine bodyPost_ret (v := .tuple #[.agg #[.slice a7 1 c7, .slice a2 n2 c2], .int .i64 0]) (by simp [results, Tryz.results42, go_sem, x0, x1, y0, y1, z0, z1', t0, t1]) rfl (FIN.out w7 g7 1 c7 a7 OX.out.2 e7 hg hl _ _ _)
    · simp only [Value.slice.injEq] at e
      obtain ⟨rfl, hn', rfl⟩ := e
      have hlk : (l.take k).length = k := by rw [List.length_take, ← HN.out]; omega
      have hld : (l.drop k).length = n - k := by rw [List.length_drop, ← HN.out]
      have W5 := HL.out.wfs
      have f1 : Aside ((flatV fiveK (l.take k)).length = k * 5) := aside_of (by rw [flatV_len fun r hr => W5 r (List.mem_of_mem_take hr), hlk]; rfl)
      have f2 : Aside ((flatV fiveK (l.drop k)).length = (n - k) * 5) := aside_of (by rw [flatV_len fun r hr => W5 r (List.mem_of_mem_drop hr), hld]; rfl)
      have o1 := aside_of (flatV_one (cols := fiveK) fun r hr => W5 r (List.mem_of_mem_take (i := k) hr))
      have o2 := aside_of (flatV_one (cols := fiveK) fun r hr => W5 r (List.mem_of_mem_drop (i := k) hr))
      have S1 : Aside (∀ v : World, Below wc.heap.size wc v → ∀ (j : Nat) (u : Value), (flatV fiveK (l.take k))[j]? = some u → v.cell? ((⟨b, off, none⟩ : Addr).add j) = some u) := aside_of (fun v hv j u hj => (HL.out.below (PC.out v hv).2.2).src (by decide) j u (by
        rw [flatV_split l k, List.getElem?_append_left (List.getElem?_eq_some_iff.1 hj).1]; exact hj))
      have S2 : Aside (∀ v : World, Below wc.heap.size wc v → ∀ (j : Nat) (u : Value), (flatV fiveK (l.drop k))[j]? = some u → v.cell? ((⟨b, off + k * 5, none⟩ : Addr).add j) = some u) := aside_of (fun v hv j u hj => by
        have := (HL.out.below (PC.out v hv).2.2).src (by decide) (k * 5 + j) u (by
          rw [flatV_split l k, List.getElem?_append_right (by rw [f1.out]; omega), f1.out, Nat.add_sub_cancel_left]; exact hj)
        rw [Eng.add_plain] at this ⊢
        rw [Nat.add_assoc]; exact this)
      have HK := S1.out wc (Below.refl _ _)
      have HC := aside_of (And.intro hle hcap)
      have hle' : n ≤ c1 := by rw [HN.out]; exact hle
      clear hlk hld W5 hn' hle hcap hbl
      go_upto_region 11 with (first
        | (at_builtin; refine wpList_append_own _ rfl (.tmp 45) (.tmp 49) 59 rfl wc.heap.size 175 i0 (.agg #[.int .u64 0, .int .u64 0, .int .u64 0, .int .u64 0, .int .u64 0]) 5 40 Tryz.underlying59 hi0 hz0 hz1 hz2 rfl (by decide) (.slice none 0 0) 0 [] rfl (World.ownsRow_nil wc _ 175 5) ⟨b, off, none⟩ k c1 (flatV fiveK (l.take k)) rfl f1.out HK o1.out (by unfold maxLen; omega) (by omega) (Nat.le_refl _) ?_; intro v4 w4 own4 gr4 _; rw [List.nil_append, Nat.zero_add] at own4; obtain ⟨a4, c4, rfl⟩ := bown_shape own4; have b4 : Below wc.heap.size wc w4 := bgrown_own (Nat.le_refl _) (World.ownsRow_nil wc wc.heap.size 175 5) gr4; have OW := aside_of (And.intro own4 b4); clear own4 b4 HK)
        | (go_at_call 107; with_reducible refine (hof _).mono ?_; rintro e w3 ⟨he, hw3⟩; subst he; subst hw3)
        | (at_builtin; refine wpList_append_own _ rfl (.tmp 51) (.tmp 59) 59 rfl wc.heap.size 175 i0 (.agg #[.int .u64 0, .int .u64 0, .int .u64 0, .int .u64 0, .int .u64 0]) 5 40 Tryz.underlying59 hi0 hz0 hz1 hz2 rfl (by decide) (.slice a4 k c4) k (flatV fiveK (l.take k)) rfl (World.ownsRow.alloc OW.out.1 _) ⟨w3.heap.size, 0, none⟩ 1 1 [.int .u64 id, .int .u64 s, .int .u64 now, .int .u64 now, .int .u64 now] rfl rfl (bfive _ _ _ _ _ _ _) (by simp [Value.oneCell']) (by unfold maxLen; omega) (by omega) (by have := OW.out.2.size; simp; omega) ?_; intro v7 w7 own7 gr7 _; have b7 : Below wc.heap.size wc w7 := (OW.out.2.alloc OW.out.2.size _).trans (bgrown_own (by have := OW.out.2.size; simp; omega) (World.ownsRow.alloc OW.out.1 _) gr7); obtain ⟨a7, c7, rfl⟩ := bown_shape own7; have OX := aside_of (And.intro own7 b7); have HK7 := aside_of (S2.out _ b7); clear own7 b7; obtain ⟨p0, p1, pb⟩ := PC.out _ OX.out.2; obtain ⟨x0, x1, y0, y1⟩ := bag2 p0; clear p0 p1 pb))
      have fin : ∀ (v9 : World) (m c9 : Nat) (a9 : Option Addr) (xs : List Value), 0 < m → v9.ownsRow wc.heap.size 175 5 (.slice a9 m c9) m xs → xs = flatV fiveK (l.take k ++ [id, (s : Int), now, now, now] :: l.drop k) → m = (l.take k ++ [id, (s : Int), now, now, now] :: l.drop k).length → Below wc.heap.size wc v9 → ∀ u0 u1 u2, EntOut w a2 n2 c2 l id s now (.returned (.tuple #[.agg #[.slice a9 m c9, .slice a2 n2 c2], .int .i64 0])) (((v9.setCell ⟨w.heap.size, 0, none⟩ u0).setCell ⟨w.heap.size + 1, 0, none⟩ u1).setCell ⟨w.heap.size + 1, 1, none⟩ u2) := by
        intro v9 m c9 a9 xs hm own9 hxs hml b9 u0 u1 u2
        obtain ⟨g7, c7', e7⟩ := own_shape own9 hm
        have e7 : a9 = some ⟨g7, 0, none⟩ := by simp only [Value.slice.injEq] at e7; exact e7.1
        have hg : wc.heap.size ≤ g7 := own_new (w := wc) own9 (Nat.le_refl _) g7 0 _ c9 (by rw [e7])
        exact FIN.out v9 g7 m c9 a9 b9 e7 hg (own_lst (cols := fiveK) (by decide) (HWF.out k) (by rw [← hxs]; exact own9) hml) u0 u1 u2
      have HF := aside_of fin
      clear fin
      have hlen : Aside ((l.take k ++ [id, (s : Int), now, now, now] :: l.drop k).length = n + 1) := aside_of (by rw [List.length_append, List.length_cons, List.length_take, List.length_drop, ← HN.out]; omega)
      have hfl : Aside (flatV fiveK (l.take k ++ [id, (s : Int), now, now, now] :: l.drop k) = (flatV fiveK (l.take k) ++ [.int .u64 id, .int .u64 s, .int .u64 now, .int .u64 now, .int .u64 now]) ++ flatV fiveK (l.drop k)) := aside_of (by simp [flatV, colVs, colV, fiveK])
      by_cases hc : c1 = k
      · obtain rfl := hc
        obtain rfl : n = c1 := by omega
        have hd0 : l.drop n = [] := List.drop_eq_nil_of_le (by rw [← HN.out]; exact Nat.le_refl _)
        have HD := aside_of hd0
        clear hd0
        go_wp2_with (at_builtin; refine wpList_append_own _ rfl (.tmp 61) (.tmp 65) 59 rfl wc.heap.size 175 i0 (.agg #[.int .u64 0, .int .u64 0, .int .u64 0, .int .u64 0, .int .u64 0]) 5 40 Tryz.underlying59 hi0 hz0 hz1 hz2 rfl (by decide) (.slice a7 (n + 1) c7) (n + 1) (flatV fiveK (l.take n) ++ [.int .u64 id, .int .u64 s, .int .u64 now, .int .u64 now, .int .u64 now]) rfl OX.out.1 ⟨b, off, none⟩ 0 0 [] rfl rfl (fun j u hj => by simp at hj) (by simp) (by unfold maxLen; omega) (by omega) OX.out.2.size ?_; intro v9 w9 own9 gr9 _; have b9 : Below wc.heap.size wc w9 := OX.out.2.trans (bgrown_own OX.out.2.size OX.out.1 gr9); obtain ⟨a9, c9, rfl⟩ := bown_shape own9; have OY := aside_of (And.intro own9 b9); clear own9 b9; clear x0 x1 y0 y1; obtain ⟨p0, p1, pb⟩ := PC.out _ OY.out.2; obtain ⟨x0, x1, y0, y1⟩ := bag2 p0; obtain ⟨z0, z1', t0, t1⟩ := bag2 p1; clear p0 p1 pb)
        refine bodyPost_ret (v := .tuple #[.agg #[.slice a9 (n + 1) c9, .slice a2 n2 c2], .int .i64 0]) (by simp [results, Tryz.results42, go_sem, x0, x1, y0, y1, z0, z1', t0, t1]) rfl (HF.out w9 (n + 1) c9 a9 _ (by omega) OY.out.1 (by rw [hfl.out, HD.out]; rfl) (by rw [hlen.out]) OY.out.2 _ _ _)
      · go_wp2_with (at_builtin; refine wpList_append_own _ rfl (.tmp 61) (.tmp 65) 59 rfl wc.heap.size 175 i0 (.agg #[.int .u64 0, .int .u64 0, .int .u64 0, .int .u64 0, .int .u64 0]) 5 40 Tryz.underlying59 hi0 hz0 hz1 hz2 rfl (by decide) (.slice a7 (k + 1) c7) (k + 1) (flatV fiveK (l.take k) ++ [.int .u64 id, .int .u64 s, .int .u64 now, .int .u64 now, .int .u64 now]) rfl OX.out.1 ⟨b, off + k * 5, none⟩ (n - k) (c1 - k) (flatV fiveK (l.drop k)) rfl f2.out HK7.out o2.out (by unfold maxLen; omega) (by omega) OX.out.2.size ?_; intro v9 w9 own9 gr9 _; have b9 : Below wc.heap.size wc w9 := OX.out.2.trans (bgrown_own OX.out.2.size OX.out.1 gr9); obtain ⟨a9, c9, rfl⟩ := bown_shape own9; have OY := aside_of (And.intro own9 b9); clear own9 b9; clear x0 x1 y0 y1; obtain ⟨p0, p1, pb⟩ := PC.out _ OY.out.2; obtain ⟨x0, x1, y0, y1⟩ := bag2 p0; obtain ⟨z0, z1', t0, t1⟩ := bag2 p1; clear p0 p1 pb)
        refine bodyPost_ret (v := .tuple #[.agg #[.slice a9 (k + 1 + (n - k)) c9, .slice a2 n2 c2], .int .i64 0]) (by simp [results, Tryz.results42, go_sem, x0, x1, y0, y1, z0, z1', t0, t1]) rfl (HF.out w9 (k + 1 + (n - k)) c9 a9 _ (by omega) OY.out.1 (by rw [hfl.out]) (by rw [hlen.out]; omega) OY.out.2 _ _ _)

end Go.Proofs.YtbdnlaepeladbaaGreatDoor

namespace Go.Proofs.YtbdnlaepeladbaaGreatDoor
open Go.ChangeShapes Go.WideShapes Go.ChangeAt Go.RowKit Go.Eng

set_option maxHeartbeats 1000000 in
set_option maxRecDepth 1000000 in
theorem runlist_no {w : World} {a1 : Option Addr} {n1 c1 : Nat} {l : List (List Int)} (h : LstAt fiveK w (.slice a1 n1 c1) l) (hm : l.length ≤ 100000) (a2 : Option Addr) (n2 c2 : Nat) (id : Int) (hi : ∀ i, IsAt l id i → i = -1) :
    Calls Tryz.prog 40 #[.agg #[.slice a1 n1 c1, .slice a2 n2 c2], .int .u64 id] w fun e w' => e = .returned (.tuple #[.agg #[.slice a1 n1 c1, .slice a2 n2 c2], .int .i64 9]) ∧ Below w.heap.size w w' := by
  have b1 : Below w.heap.size w ((w.alloc (.cells #[.slice a1 n1 c1, .slice a2 n2 c2] 61)).alloc (.cells #[.slice none 0 0, .slice none 0 0] 61)) := ((Below.refl _ w).alloc (Nat.le_refl _) _).alloc (by simp) _
  have hf := (find_calls (h.below b1) (by omega) a2 n2 c2 id).mono fun e w' (he : (∃ i : Int, e = .returned (.int .i64 i) ∧ IsAt l id i) ∧ _) => show e = .returned (.int .i64 (-1)) ∧ _ from ⟨by obtain ⟨⟨i, h1, h2⟩, _⟩ := he; rw [h1, hi i h2], he.2⟩
  have H1 := aside_of (two_bags w (.slice a1 n1 c1) (.slice a2 n2 c2) (.slice none 0 0) (.slice none 0 0))
  clear h b1 hi hm
  go_enter Tryz.func40, Tryz.ntmps40
  go_wp2_with (go_at_call 99; with_reducible refine hf.mono ?_; rintro e w2 ⟨rfl, b2⟩; obtain ⟨q0, q1, q2⟩ := H1.out _ b2; obtain ⟨k0, k1, f0, f1⟩ := bag2 q0; obtain ⟨d0, d1, g0, g1⟩ := bag2 q1)
  refine bodyPost_ret (v := .tuple #[.agg #[.slice a1 n1 c1, .slice a2 n2 c2], .int .i64 9]) (by simp [results, Tryz.results40, go_sem, k0, k1, d0, d1, f0, f1, g0, g1]) rfl ⟨rfl, ?_⟩
  exact (q2.setCell (by simp) _).setCell (by simp) _

set_option maxHeartbeats 1000000 in
set_option maxRecDepth 1000000 in
theorem runlist_yes {w : World} {a1 a2 : Option Addr} {n1 c1 n2 c2 : Nat} {l l2 : List (List Int)} (h : LstAt fiveK w (.slice a1 n1 c1) l) (hm : l.length ≤ 100000) (h2 : LstAt [.int .u64] w (.slice a2 n2 c2) l2) (hm2 : l2.length ≤ 100000) (id : Int) {k : Nat} (hi : ∀ i, IsAt l id i → i = k) :
    Calls Tryz.prog 40 #[.agg #[.slice a1 n1 c1, .slice a2 n2 c2], .int .u64 id] w fun e w' => ∃ v', e = .returned (.tuple #[.agg #[.slice a1 n1 c1, v'], .int .i64 0]) ∧ LstAt fiveK w' (.slice a1 n1 c1) l ∧ LstAt [.int .u64] w' v' (woR l2 id) ∧ (v' = .slice a2 n2 c2 ∨ NewV w v') ∧ Below w.heap.size w w' := by
  have b1 : Below w.heap.size w ((w.alloc (.cells #[.slice a1 n1 c1, .slice a2 n2 c2] 61)).alloc (.cells #[.slice none 0 0, .slice none 0 0] 61)) := ((Below.refl _ w).alloc (Nat.le_refl _) _).alloc (by simp) _
  have hf := (find_calls (h.below b1) (by omega) a2 n2 c2 id).mono fun e w' (he : (∃ i : Int, e = .returned (.int .i64 i) ∧ IsAt l id i) ∧ _) => show e = .returned (.int .i64 (k : Int)) ∧ _ from ⟨by obtain ⟨⟨i, h1, h2⟩, _⟩ := he; rw [h1, hi i h2], he.2⟩
  have H1 := aside_of (two_bags w (.slice a1 n1 c1) (.slice a2 n2 c2) (.slice none 0 0) (.slice none 0 0))
  have WW : Aside (∀ v : World, Below w.heap.size w v → Calls Tryz.prog 104 #[.slice a2 n2 c2, .int .u64 id] v fun e w' => ∃ a' n' c', e = .returned (.slice a' n' c') ∧ Aside (LstAt [.int .u64] w' (.slice a' n' c') (woR l2 id) ∧ (Value.slice a' n' c' = .slice a2 n2 c2 ∨ NewV v (.slice a' n' c'))) ∧ Below v.heap.size v w') := fun v hv => by
    refine (rwo_calls (h2.below hv) hm2 id).mono ?_
    rintro e w' ⟨v', rfl, g1, g2, g3⟩
    rcases g1.shape with ⟨rfl, _⟩ | ⟨b', o', c', rfl, _⟩
    · exact ⟨_, _, _, rfl, ⟨g1, .inr g2⟩, g3⟩
    · exact ⟨_, _, _, rfl, ⟨g1, .inr g2⟩, g3⟩
  have HL : Aside (∀ v : World, Below w.heap.size w v → LstAt fiveK v (.slice a1 n1 c1) l) := fun v hv => h.below hv
  have B1 := aside_of (blk_lt h)
  have B2 := aside_of (blk_lt h2)
  have h0 : ¬ (k : Int) < 0 := by omega
  generalize (woR l2 id) = LL at WW ⊢
  clear h h2 b1 hi hm hm2
  go_enter Tryz.func40, Tryz.ntmps40
  go_wp2_with (first
    | (go_at_call 99; with_reducible refine hf.mono ?_; rintro e w2 ⟨rfl, b2⟩; obtain ⟨q0, q1, q2⟩ := H1.out _ b2; obtain ⟨k0, k1, f0, f1⟩ := bag2 q0; obtain ⟨d0, d1, g0, g1⟩ := bag2 q1)
    | (go_at_call 104; with_reducible refine (WW.out _ q2).mono ?_; rintro e w3 ⟨a', n', c', rfl, G, b3⟩; obtain ⟨r0, r1, r2⟩ := H1.out _ (b2.trans (b3.mono b2.size)); obtain ⟨x0, x1, y0, y1⟩ := bag2 r0; obtain ⟨z0, z1, t0, t1⟩ := bag2 r1))
  obtain ⟨G1, G2⟩ := G.out
  have hsz : w.heap.size + 2 ≤ w2.heap.size := by have := b2.size; simp at this; omega
  have hv1 : ∀ c, blkOf (.slice a1 n1 c1) c → c < w.heap.size := B1.out
  have hv2 : ∀ c, blkOf (.slice a' n' c') c → c < w.heap.size ∨ w.heap.size + 2 ≤ c := fun c hc => by
    rcases G2 with e | hN
    · rw [e] at hc; exact .inl (B2.out c hc)
    · have := newV_blk hN c hc; exact .inr (by omega)
  refine bodyPost_ret (v := .tuple #[.agg #[.slice a1 n1 c1, .slice a' n' c'], .int .i64 0]) (by simp [results, Tryz.results40, go_sem, x0, x1, y0, y1, z0, z1, t0, t1]) rfl ⟨_, rfl, ?_, ?_, G2.imp (fun h => h) fun hN => hN.mono (by omega), ?_⟩
  · refine (((HL.out _ r2).offv (fun c hc => ?_) _).offv (fun c hc => ?_) _).offv (fun c hc => ?_) _
    all_goals (have := hv1 c hc; show _ ≠ c; simp only; omega)
  · refine ((G1.offv (fun c hc => ?_) _).offv (fun c hc => ?_) _).offv (fun c hc => ?_) _
    all_goals (have := hv2 c hc; show _ ≠ c; simp only; omega)
  · exact ((r2.setCell (by simp) _).setCell (by simp) _).setCell (by simp) _

/-! ### Enter, where nothing goes in -/

set_option maxHeartbeats 1000000 in
set_option maxRecDepth 1000000 in
theorem renter_range {w : World} (a1 : Option Addr) (n1 c1 : Nat) (a2 : Option Addr) (n2 c2 : Nat) (id st now : Int) (hr : id = 0 ∨ st < 0 ∨ 3 < st) :
    Calls Tryz.prog 42 #[.agg #[.slice a1 n1 c1, .slice a2 n2 c2], .int .u64 id, .int .i64 st, .int .u64 now] w fun e w' => e = .returned (.tuple #[.agg #[.slice a1 n1 c1, .slice a2 n2 c2], .int .i64 2]) ∧ Below w.heap.size w w' := by
  rcases (show (id == 0) = true ∨ ((id == 0) = false ∧ decide (st < 0) = true) ∨ ((id == 0) = false ∧ decide (st < 0) = false ∧ decide (3 < st) = true) by
    simp only [beq_iff_eq, beq_eq_false_iff_ne, decide_eq_true_eq, decide_eq_false_iff_not]; omega) with z1 | ⟨z1, z2⟩ | ⟨z1, z2, z3⟩
  all_goals
    clear hr
    go_enter Tryz.func42, Tryz.ntmps42
    go_wp2
    refine bodyPost_ret (v := .tuple #[.agg #[.slice a1 n1 c1, .slice a2 n2 c2], .int .i64 2]) (by simp [results, Tryz.results42, go_sem]) rfl ⟨rfl, ?_⟩
    exact ((Below.refl _ w).alloc (Nat.le_refl _) _).alloc (by simp) _

set_option maxHeartbeats 1000000 in
set_option maxRecDepth 1000000 in
theorem renter_twice {w : World} {a1 : Option Addr} {n1 c1 : Nat} {l : List (List Int)} (h : LstAt fiveK w (.slice a1 n1 c1) l) (hm : l.length ≤ 100000) (a2 : Option Addr) (n2 c2 : Nat) (id st now : Int) (hid0 : id ≠ 0) (hs0 : 0 ≤ st) (hs3 : st ≤ 3) {k : Nat} (hi : ∀ i, IsAt l id i → i = k) :
    Calls Tryz.prog 42 #[.agg #[.slice a1 n1 c1, .slice a2 n2 c2], .int .u64 id, .int .i64 st, .int .u64 now] w fun e w' => e = .returned (.tuple #[.agg #[.slice a1 n1 c1, .slice a2 n2 c2], .int .i64 10]) ∧ Below w.heap.size w w' := by
  have b1 : Below w.heap.size w ((w.alloc (.cells #[.slice a1 n1 c1, .slice a2 n2 c2] 61)).alloc (.cells #[.slice none 0 0, .slice none 0 0] 61)) := ((Below.refl _ w).alloc (Nat.le_refl _) _).alloc (by simp) _
  have hf := (find_calls (h.below b1) (by omega) a2 n2 c2 id).mono fun e w' (he : (∃ i : Int, e = .returned (.int .i64 i) ∧ IsAt l id i) ∧ _) => show e = .returned (.int .i64 (k : Int)) ∧ _ from ⟨by obtain ⟨⟨i, h1, h2⟩, _⟩ := he; rw [h1, hi i h2], he.2⟩
  have H1 := aside_of (two_bags w (.slice a1 n1 c1) (.slice a2 n2 c2) (.slice none 0 0) (.slice none 0 0))
  have z1 : (id == 0) = false := by simpa using hid0
  have z2 : decide (st < 0) = false := decide_eq_false (by omega)
  have z3 : decide (3 < st) = false := decide_eq_false (by omega)
  have h0 : (0 : Int) ≤ (k : Int) := by omega
  clear h b1 hi hm hid0 hs0 hs3
  go_enter Tryz.func42, Tryz.ntmps42
  go_wp2_with (go_at_call 99; with_reducible refine hf.mono ?_; rintro e w2 ⟨rfl, b2⟩; obtain ⟨q0, q1, q2⟩ := H1.out _ b2; obtain ⟨k0, k1, f0, f1⟩ := bag2 q0; obtain ⟨d0, d1, g0, g1⟩ := bag2 q1)
  refine bodyPost_ret (v := .tuple #[.agg #[.slice a1 n1 c1, .slice a2 n2 c2], .int .i64 10]) (by simp [results, Tryz.results42, go_sem, k0, k1, d0, d1, f0, f1, g0, g1]) rfl ⟨rfl, ?_⟩
  exact (q2.setCell (by simp) _).setCell (by simp) _

end Go.Proofs.YtbdnlaepeladbaaGreatDoor

namespace Go.Proofs.YtbdnlaepeladbaaGreatDoor
open Go.ChangeShapes Go.WideShapes Go.ChangeAt Go.RowKit Go.Eng

/-! ### the document's acts, told by rows -/

/-- What a document's act leaves: the bag's value. -/
structure DBg (w : World) (B' : List (List Int)) (ns' : List Int) (v1 v2 u1 u2 : Value) (w' : World) : Prop where
  l : LstAt fiveK w' u1 B'
  n : LstAt [.int .u64] w' u2 (oneRows ns')
  s1 : ∃ a c, u1 = .slice a B'.length c
  s2 : ∃ a c, u2 = .slice a ns'.length c
  n1 : u1 = v1 ∨ NewV w u1
  n2 : u2 = v2 ∨ NewV w u2
  low : Below w.heap.size w w'

def DOut (w : World) (B' : List (List Int)) (ns' : List Int) (v1 v2 : Value) (f : Int) (e : Ending) (w' : World) : Prop :=
  ∃ u1 u2, e = .returned (.tuple #[.agg #[u1, u2], .int .i64 f]) ∧ DBg w B' ns' v1 v2 u1 u2 w'

theorem LstAt.sl {cols : List TK} {w : World} {v : Value} {l : List (List Int)} (h : LstAt cols w v l) : ∃ a c, v = .slice a l.length c := by
  rcases h.shape with ⟨rfl, rfl⟩ | ⟨b, o, c, h, _⟩
  · exact ⟨_, _, rfl⟩
  · exact ⟨_, _, h⟩
theorem LstAt.sl1 {w : World} {v : Value} {ns : List Int} (h : LstAt [.int .u64] w v (oneRows ns)) : ∃ a c, v = .slice a ns.length c := by
  have := h.sl
  rw [oneRows_len] at this
  exact this

theorem DBg.mk' {w w' : World} {B' : List (List Int)} {ns' : List Int} {v1 v2 u1 u2 : Value} (l : LstAt fiveK w' u1 B') (n : LstAt [.int .u64] w' u2 (oneRows ns')) (n1 : u1 = v1 ∨ NewV w u1) (n2 : u2 = v2 ∨ NewV w u2) (low : Below w.heap.size w w') : DBg w B' ns' v1 v2 u1 u2 w' :=
  ⟨l, n, l.sl, n.sl1, n1, n2, low⟩

variable {w : World} {v1 v2 : Value} {B : List (List Int)} {ns : List Int}

theorem dproved (h1 : LstAt fiveK w v1 B) (h2 : LstAt [.int .u64] w v2 (oneRows ns)) (hl : B.length ≤ 1000) {id now : Int} (w4 : (Lit.int .u64 now).wf = true) :
    Calls Tryz.prog 37 #[.agg #[v1, v2], .int .u64 id, .int .u64 now] w fun e w' => DOut w (provedB B id now) ns v1 v2 (knownE B id) e w' := by
  obtain ⟨a1, c1, rfl⟩ := h1.sl
  obtain ⟨a2, c2, rfl⟩ := h2.sl
  rcases isAt_one B id with ⟨_, hr, hi⟩ | ⟨k, row, hk, hrow, hr, hset, hi⟩
  · refine (rproved_no h1 (by omega) a2 _ c2 id now hi).mono ?_
    rintro e w' ⟨rfl, hbl⟩
    have hP : provedB B id now = B := by unfold provedB; rw [hr]
    have hE : knownE B id = 9 := by unfold knownE; rw [hr]; rfl
    rw [hP, hE]
    exact ⟨_, _, rfl, .mk' (h1.below hbl) (h2.below hbl) (.inl rfl) (.inl rfl) hbl⟩
  · obtain ⟨i0, x, bo, si, pr, rfl, _⟩ := five_row (h1.wfs _ (List.mem_of_getElem? hk))
    simp only [List.headD_cons] at hrow
    subst hrow
    have hP : provedB B i0 now = B.set k [i0, x, bo, si, now] := by unfold provedB; rw [hr]; exact hset _
    have hE : knownE B i0 = 0 := by unfold knownE; rw [hr]; rfl
    rw [hP, hE]
    rcases h1.shape with ⟨_, rfl⟩ | ⟨b, off, cap, e1, _⟩
    · simp at hk
    · rw [e1] at h1 ⊢
      refine (rproved_yes h1 (by omega) a2 _ c2 i0 now w4 hk hi).mono ?_
      rintro e w' ⟨v', rfl, L', hN, hbl⟩
      exact ⟨_, _, rfl, .mk' L' (h2.below hbl) (.inr hN) (.inl rfl) hbl⟩

theorem dpublish (h1 : LstAt fiveK w v1 B) (h2 : LstAt [.int .u64] w v2 (oneRows ns)) (hl : B.length ≤ 1000) (hn : ns.length ≤ 1000) {id : Int} (w1 : (Lit.int .u64 id).wf = true) :
    Calls Tryz.prog 38 #[.agg #[v1, v2], .int .u64 id] w fun e w' => DOut w B (if (rfind id B).isSome then withL ns id else ns) v1 v2 (knownE B id) e w' := by
  obtain ⟨a1, c1, rfl⟩ := h1.sl
  obtain ⟨a2, c2, rfl⟩ := h2.sl
  rcases isAt_one B id with ⟨_, hr, hi⟩ | ⟨k, row, hk, hrow, hr, hset, hi⟩
  · refine (rpublish_no h1 (by omega) a2 _ c2 id hi).mono ?_
    rintro e w' ⟨rfl, hbl⟩
    have hE : knownE B id = 9 := by unfold knownE; rw [hr]; rfl
    rw [hE, hr]
    exact ⟨_, _, rfl, .mk' (h1.below hbl) (h2.below hbl) (.inl rfl) (.inl rfl) hbl⟩
  · refine (rpublish_yes h1 (by omega) h2 (by rw [oneRows_len]; omega) id w1 hi).mono ?_
    rintro e w' ⟨v', rfl, LA, LB, hN, hbl⟩
    have hE : knownE B id = 0 := by unfold knownE; rw [hr]; rfl
    rw [hE, hr, Option.isSome_some, if_pos rfl]
    rw [← oneRows_with] at LB
    exact ⟨_, _, rfl, .mk' LA LB (.inl rfl) hN hbl⟩

theorem dunlist (h1 : LstAt fiveK w v1 B) (h2 : LstAt [.int .u64] w v2 (oneRows ns)) (hnd : ns.Nodup) (hl : B.length ≤ 1000) (hn : ns.length ≤ 1000) {id : Int} :
    Calls Tryz.prog 40 #[.agg #[v1, v2], .int .u64 id] w fun e w' => DOut w B (if (rfind id B).isSome then woL ns id else ns) v1 v2 (knownE B id) e w' := by
  obtain ⟨a1, c1, rfl⟩ := h1.sl
  obtain ⟨a2, c2, rfl⟩ := h2.sl
  rcases isAt_one B id with ⟨_, hr, hi⟩ | ⟨k, row, hk, hrow, hr, hset, hi⟩
  · refine (runlist_no h1 (by omega) a2 _ c2 id hi).mono ?_
    rintro e w' ⟨rfl, hbl⟩
    have hE : knownE B id = 9 := by unfold knownE; rw [hr]; rfl
    rw [hE, hr]
    exact ⟨_, _, rfl, .mk' (h1.below hbl) (h2.below hbl) (.inl rfl) (.inl rfl) hbl⟩
  · refine (runlist_yes h1 (by omega) h2 (by rw [oneRows_len]; omega) id hi).mono ?_
    rintro e w' ⟨v', rfl, LA, LB, hN, hbl⟩
    have hE : knownE B id = 0 := by unfold knownE; rw [hr]; rfl
    rw [hE, hr, Option.isSome_some, if_pos rfl]
    have : woR (oneRows ns) id = oneRows (woL ns id) := (oneRows_wo hnd id).symm
    rw [this] at LB
    exact ⟨_, _, rfl, .mk' LA LB (.inl rfl) hN hbl⟩

theorem denter (h1 : LstAt fiveK w v1 B) (h2 : LstAt [.int .u64] w v2 (oneRows ns)) (hl : B.length ≤ 1000) {id st now : Int} (w1 : (Lit.int .u64 id).wf = true) (w4 : (Lit.int .u64 now).wf = true) :
    Calls Tryz.prog 42 #[.agg #[v1, v2], .int .u64 id, .int .i64 st, .int .u64 now] w fun e w' => DOut w (enterB B id st now) ns v1 v2 (enterE B id st) e w' := by
  obtain ⟨a1, c1, rfl⟩ := h1.sl
  obtain ⟨a2, c2, rfl⟩ := h2.sl
  by_cases hb : id = 0 ∨ st < 0 ∨ 3 < st
  · refine (renter_range a1 _ c1 a2 _ c2 id st now hb).mono ?_
    rintro e w' ⟨rfl, hbl⟩
    have hP : enterB B id st now = B := by unfold enterB; rw [if_pos]; rcases hb with h | h | h <;> simp [h]
    have hE : enterE B id st = 2 := by unfold enterE; rw [if_pos hb]
    rw [hP, hE]
    exact ⟨_, _, rfl, .mk' (h1.below hbl) (h2.below hbl) (.inl rfl) (.inl rfl) hbl⟩
  · have hE : enterE B id st = if (rfind id B).isSome then 10 else 0 := by unfold enterE; rw [if_neg hb]
    simp only [not_or, Int.not_lt] at hb
    obtain ⟨b0, b1, b2⟩ := hb
    rcases isAt_one B id with ⟨_, hr, hi⟩ | ⟨k, row, hk, hrow, hr, hset, hi⟩
    · refine (renter_new h1 (by omega) w1 w4 b0 b1 b2 hi).mono ?_
      rintro e w' ⟨k, v', hk, rfl, L', hN, hbl⟩
      have hP : enterB B id st now = B.take k ++ [id, st, now, now, now] :: B.drop k := by
        unfold enterB
        rw [hr, if_neg (by simp; omega), rput_ins hk hr]
      rw [hE, hP, hr]
      exact ⟨_, _, rfl, .mk' L' (h2.below hbl) (.inr hN) (.inl rfl) hbl⟩
    · refine (renter_twice h1 (by omega) a2 _ c2 id st now b0 b1 b2 hi).mono ?_
      rintro e w' ⟨rfl, hbl⟩
      have hP : enterB B id st now = B := by unfold enterB; rw [if_pos]; rw [hr]; simp
      rw [hE, hP, hr]
      exact ⟨_, _, rfl, .mk' (h1.below hbl) (h2.below hbl) (.inl rfl) (.inl rfl) hbl⟩

def DOut3 (w : World) (B' : List (List Int)) (ns' : List Int) (v1 v2 : Value) (x : Int) (ok : Bool) (e : Ending) (w' : World) : Prop :=
  ∃ u1 u2, e = .returned (.tuple #[.agg #[u1, u2], .int .u64 x, .bool ok]) ∧ DBg w B' ns' v1 v2 u1 u2 w'

theorem dswap (h1 : LstAt fiveK w v1 B) (h2 : LstAt [.int .u64] w v2 (oneRows ns)) (hl : B.length ≤ 1000) {id old st now : Int} (wo : (Lit.int .u64 old).wf = true) (w4 : (Lit.int .u64 now).wf = true) :
    Calls Tryz.prog 35 #[.agg #[v1, v2], .int .u64 id, .int .u64 old, .int .i64 st, .int .u64 now] w fun e w' => DOut3 w (swapB B id old st now) ns v1 v2 (swapW B id old st) (swapOk B id old st) e w' := by
  obtain ⟨a1, c1, rfl⟩ := h1.sl
  obtain ⟨a2, c2, rfl⟩ := h2.sl
  obtain ⟨y, rfl, hy⟩ := u64n wo
  rcases isAt_one B id with ⟨_, hr, hi⟩ | ⟨k, row, hk, hrow, hr, hset, hi⟩
  · refine (rbswap_no h1 (by omega) a2 _ c2 id y st now hi).mono ?_
    rintro e w' ⟨rfl, hbl⟩
    have e2 : swapOk B id y st = false := by unfold swapOk; rw [hr]; rfl
    have e1 : swapW B id y st = 0 := by unfold swapW wordR; rw [e2, hr]; rfl
    have hP : swapB B id y st now = B := by unfold swapB; rw [hr]
    rw [hP, e1, e2]
    exact ⟨_, _, rfl, .mk' (h1.below hbl) (h2.below hbl) (.inl rfl) (.inl rfl) hbl⟩
  · obtain ⟨i0, x0, bo, si, pr, rfl, _, wx, _⟩ := five_row (h1.wfs _ (List.mem_of_getElem? hk))
    obtain ⟨x, rfl, hx⟩ := u64n wx
    simp only [List.headD_cons] at hrow
    subst hrow
    simp only [List.tail_cons] at hr
    obtain ⟨ok, hok⟩ : ∃ ok, ok = (mayB ((y : Int) % 4) st && decide (x = y)) := ⟨_, rfl⟩
    have e2 : swapOk B i0 y st = ok := by
      unfold swapOk wordR
      rw [hr, hok]
      simp only [Option.isSome_some, Bool.true_and, Option.getD_some, List.headD_cons]
      congr 1
      by_cases e : x = y
      · simp [e]
      · simp only [e, decide_false, beq_eq_false_iff_ne]; omega
    obtain ⟨W, hW⟩ : ∃ W, W = if ok then toN y st else x := ⟨_, rfl⟩
    have e1 : swapW B i0 y st = (W : Int) := by
      unfold swapW wordR
      rw [e2, hr, hW]
      cases ok <;> simp
    have hW2 : W < 18446744073709551616 := by
      rw [hW]
      split
      · rename_i ho
        rw [hok, Bool.and_eq_true] at ho
        have := may_range ho.1
        unfold toN
        exact ofN_lt (by omega)
      · exact hx
    have hP : swapB B i0 y st now = B.set k [i0, W, bo, if ok && st == 0 then now else si, pr] := by
      unfold swapB
      rw [hr]
      simp only [e2]
      cases ok with
      | false =>
        simp only [Bool.false_eq_true, if_false, Bool.false_and] at hW ⊢
        rw [hW, set_self hk]
      | true =>
        simp only [if_true, Bool.true_and, beq_iff_eq] at hW ⊢
        rw [hset, hW, Int.toNat_natCast]
    rw [hP, e1, e2]
    rcases h1.shape with ⟨_, rfl⟩ | ⟨b, off, cap, e1', _⟩
    · simp at hk
    · rw [e1'] at h1 ⊢
      refine (rbswap_yes h1 (by omega) a2 _ c2 i0 st now w4 y hy hk hi W ok hok hW hW2).mono ?_
      rintro e w' ⟨v', rfl, L', hN, hbl⟩
      exact ⟨_, _, rfl, .mk' L' (h2.below hbl) (.inr hN) (.inl rfl) hbl⟩

theorem dcount (h1 : LstAt fiveK w v1 B) (h2 : LstAt [.int .u64] w v2 (oneRows ns)) (hl : B.length ≤ 1000) (s : Int) :
    Calls Tryz.prog 108 #[.agg #[v1, v2], .int .i64 s] w fun e w' => e = .returned (.int .i64 (countB B s)) ∧ Below w.heap.size w w' := by
  obtain ⟨a2, c2, rfl⟩ := h2.sl
  exact rcount_calls h1 (by omega) a2 _ c2 s

end Go.Proofs.YtbdnlaepeladbaaGreatDoor
