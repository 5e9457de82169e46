/- The law's second loop: what is in order is played again. Conditions: how the events lie in memory. -/
import Derived.Test.YtigdkcpipiimnaaGreatDoorCkC
import Derived.Deep.CutBlock
namespace Go.Proofs.YtigdkcpipiimnaaGreatDoor
open Go.ChangeShapes Go.WideShapes Go.ChangeAt Go.RowKit Go.Eng Go.Deep

variable {w v v' w' : World} {C E wm : Nat} {lm rm : Option Nat} {c : CK} {e : Ev} {s : AuS}

set_option maxRecDepth 100000 in
theorem closed_calls (w : World) (lm rm : Option Nat) (c : Bool) :
    Calls Tryz.prog 12 #[stV lm rm c] w fun e w' => e = .returned (.bool c) ∧ Below w.heap.size w w' := by
  have b1 := below_alloc w (.cells #[.map lm, .map rm, .bool c] 30)
  go_enter Tryz.func12, Tryz.ntmps12
  go_wp2
  go_ret
  exact ⟨rfl, b1⟩

theorem take_at {b off : Nat} {l : List Ev} (h : EvsAt w b off l) (k : Nat) : EvsAt w b off (l.take k) := fun j e he => h j e (by
  rw [List.getElem?_take] at he
  split at he
  · exact he
  · cases he)

theorem sl_take {W : World} {B b off n cap k : Nat} {l : List Ev} (hl : EvsAt W b off l) (hb : b < B) (hn : n = l.length) (hm : n ≤ 100) (hcap : n ≤ cap) (hk : k ≤ n) (hB : Below B W v) (hs : B ≤ W.heap.size) : EvSl v (.slice (some ⟨b, off, none⟩) k cap) (l.take k) := by
  have hlen : (l.take k).length = k := by rw [List.length_take]; omega
  exact ⟨_, cap, by rw [hlen], by omega, by omega, .inr ⟨b, off, rfl, Nat.lt_of_lt_of_le hb (Nat.le_trans hs hB.size), take_at (hl.below hB hb) k⟩⟩

theorem mk_marks {l : List Ev} {m : Nat} (hm : m ≤ (CK.zero.run l).2.1) : mk (l.take m) (CK.zero.run (l.take m)).2.1 = marks (l.take m) := by
  rw [CK.run_take l CK.zero m hm]
  unfold mk
  rw [List.take_take, Nat.min_self]

theorem replays_take {l : List Ev} : replay CK.zero.s (marks (l.take (CK.zero.run l).2.1)) = some (CK.zero.run l).1.s := by
  have h := CK.run_take l CK.zero (CK.zero.run l).2.1 (Nat.le_refl _)
  have hle := (CK.run_le l CK.zero).1
  rw [CK.replays (l.take (CK.zero.run l).2.1) CK.zero (by rw [h, List.length_take, Nat.min_eq_left hle]), ← CK.run_state]

theorem tmod_nat {x : Int} {m : Nat} (hx : 0 ≤ x) : ∃ k : Nat, x.tmod ((m : Int) + 1) = k ∧ k ≤ m := by
  obtain ⟨n, rfl⟩ := Int.eq_ofNat_of_zero_le hx
  refine ⟨n % (m + 1), ?_, by have := Nat.mod_lt n (show 0 < m + 1 by omega); omega⟩
  have : ((m : Int) + 1) = ((m + 1 : Nat) : Int) := by omega
  rw [this]
  exact Int.ofNat_tmod n (m + 1)

/-- The row of what is played again, in memory. -/
def OrdAt (v : World) (X : Nat) (a : Option Addr) (n : Nat) (ms : List Ev) : Prop := n = 0 ∨ ∃ g, a = some ⟨g, 0, none⟩ ∧ X < g ∧ g < v.heap.size ∧ EvsAt v g 0 ms
theorem OrdAt.below {X n : Nat} {a : Option Addr} {ms : List Ev} (h : OrdAt v X a n ms) (hb : Below v.heap.size v v') : OrdAt v' X a n ms := by
  rcases h with h | ⟨g, h1, h2, h3, h4⟩
  · exact .inl h
  · exact .inr ⟨g, h1, h2, Nat.lt_of_lt_of_le h3 hb.size, h4.below hb h3⟩
theorem OrdAt.off {X n j : Nat} {a : Option Addr} {ms : List Ev} (h : OrdAt v X a n ms) (u : Value) : OrdAt (v.setCell ⟨X, j, none⟩ u) X a n ms := by
  rcases h with h | ⟨g, h1, h2, h3, h4⟩
  · exact .inl h
  · refine .inr ⟨g, h1, h2, by simpa using h3, fun k e he => ?_⟩
    obtain ⟨q0, q1, q2, q3, q4, q5⟩ := h4 k e he
    have tr : ∀ {o : Nat} {y : Value}, v.cell? ⟨g, o, none⟩ = some y → (v.setCell ⟨X, j, none⟩ u).cell? ⟨g, o, none⟩ = some y := fun {o y} hq => by
      rw [← hq]
      unfold World.cell?
      rw [Below.heap_setCell _ _ _ _ (by simp only; omega)]
    exact ⟨tr q0, tr q1, tr q2, tr q3, tr q4, tr q5⟩
theorem OrdAt.get {X n j : Nat} {a : Option Addr} {ms : List Ev} (h : OrdAt v X a n ms) (hj : j < n) (he : ms[j]? = some e) : ∃ g, a = some ⟨g, 0, none⟩ ∧ v.cell? ⟨g, j * 6, none⟩ = some (.int .u64 e.step) ∧ v.cell? ⟨g, j * 6 + 1, none⟩ = some (.int .i64 e.thread) ∧ v.cell? ⟨g, j * 6 + 2, none⟩ = some (.int .i64 e.kind) ∧
    v.cell? ⟨g, j * 6 + 3, none⟩ = some (.int .i64 e.op) ∧ v.cell? ⟨g, j * 6 + 4, none⟩ = some (.int .u64 e.id) ∧ v.cell? ⟨g, j * 6 + 5, none⟩ = some (.int .i64 e.err) := by
  rcases h with h | ⟨g, h1, _, _, h4⟩
  · omega
  · have := h4 j e he
    unfold EvCells at this
    simp only [Nat.zero_add] at this
    exact ⟨g, h1, this⟩

/-- Playing again goes on. -/
theorem replay_at {s z : AuS} {ms : List Ev} {j : Nat} (h : replay s (ms.drop j) = some z) (he : ms[j]? = some e) :
    (e.kind = 3 → (s.Retire e.id).2 = 0 ∧ replay (s.Retire e.id).1 (ms.drop (j + 1)) = some z) ∧ (e.kind ≠ 3 → (s.Point e.thread e.op e.id e.err).2 = 0 ∧ replay (s.Point e.thread e.op e.id e.err).1 (ms.drop (j + 1)) = some z) := by
  have hd : ms.drop j = e :: ms.drop (j + 1) := by
    obtain ⟨h1, h2⟩ := List.getElem?_eq_some_iff.1 he
    rw [List.drop_eq_getElem_cons h1, h2]
  rw [hd, replay] at h
  constructor
  · intro hk
    rw [if_pos hk] at h
    split at h
    · rename_i h0; exact ⟨h0, h⟩
    · cases h
  · intro hk
    rw [if_neg hk] at h
    split at h
    · rename_i h0; exact ⟨h0, h⟩
    · cases h

/-- In a round: the state in X, the event in Z. -/
structure Ir (W : World) (B X Z : Nat) (lm rm : Option Nat) (s : AuS) (a : Option Addr) (n : Nat) (ms : List Ev) (e : Ev) (v : World) : Prop where
  low : Below B W v
  hX : B ≤ X
  row : RowS v X lm rm s.c
  st : StAt v lm rm s
  ord : OrdAt v X a n ms
  ev : EvBlk v Z e
  xz : X ≠ Z

variable {W : World} {B X Z n : Nat} {a : Option Addr} {ms : List Ev}
theorem Ir.below (h : Ir W B X Z lm rm s a n ms e v) (hb : Below v.heap.size v v') : Ir W B X Z lm rm s a n ms e v' :=
  ⟨h.low.trans (hb.mono (Nat.le_of_lt (Nat.lt_of_le_of_lt h.hX h.row.lt))), h.hX, h.row.below hb h.row.lt, h.st.below hb, h.ord.below hb, h.ev.below hb h.ev.lt, h.xz⟩
theorem Ir.put {lm' rm' : Option Nat} {s' : AuS} (h : Ir W B X Z lm rm s a n ms e v) (st : StAt v lm' rm' s') : Ir W B X Z lm' rm' s' a n ms e (((v.setCell ⟨X, 0, none⟩ (.map lm')).setCell ⟨X, 1, none⟩ (.map rm')).setCell ⟨X, 2, none⟩ (.bool s'.c)) :=
  ⟨((h.low.setCell h.hX _).setCell h.hX _).setCell h.hX _, h.hX, h.row.set lm' rm' s'.c, st.offRow3 h.row _ _ _, ((h.ord.off _).off _).off _, by
    have h1 := h.ev
    unfold EvBlk at h1 ⊢
    rw [Below.heap_setCell _ _ _ _ (fun e => h.xz e.symm), Below.heap_setCell _ _ _ _ (fun e => h.xz e.symm), Below.heap_setCell _ _ _ _ (fun e => h.xz e.symm)]
    exact h1, h.xz⟩
theorem ir_retire (h : Ir W B X Z lm rm s a n ms e v) : Calls Tryz.prog 8 #[stV lm rm s.c, .int .u64 e.id] v fun x w' => ∃ lm' rm', x = .returned (.tuple #[stV lm' rm' (s.Retire e.id).1.c, .int .i64 (s.Retire e.id).2]) ∧ StAt w' lm' rm' (s.Retire e.id).1 ∧ Ir W B X Z lm rm s a n ms e w' :=
  (Retire_calls h.st e.id).mono fun _ _ ⟨lm', rm', he, hs, hb, _, _⟩ => ⟨lm', rm', he, hs, h.below hb⟩
theorem ir_point (h : Ir W B X Z lm rm s a n ms e v) (hI : s.Inv) : Calls Tryz.prog 9 #[stV lm rm s.c, .int .i64 e.thread, .int .i64 e.op, .int .u64 e.id, .int .i64 e.err] v fun x w' => ∃ lm' rm', x = .returned (.tuple #[stV lm' rm' (s.Point e.thread e.op e.id e.err).1.c, .int .i64 (s.Point e.thread e.op e.id e.err).2]) ∧ StAt w' lm' rm' (s.Point e.thread e.op e.id e.err).1 ∧ Ir W B X Z lm rm s a n ms e w' :=
  (Point_calls h.st hI e.thread e.op e.id e.err).mono fun _ _ ⟨lm', rm', he, hs, hb, _, _⟩ => ⟨lm', rm', he, hs, h.below hb⟩

/-- Order, of the first that are in order. -/
theorem order_take {W : World} {B b off cap : Nat} {l : List Ev} (hl : EvsAt W b off l) (hb : b < B) (hm : l.length ≤ 100) (hcap : l.length ≤ cap) (hB : Below B W v) (hs : B ≤ W.heap.size) :
    Calls Tryz.prog 7 #[.slice (some ⟨b, off, none⟩) (CK.zero.run l).2.1 cap] v fun x w' => ∃ a n c, x = .returned (.slice a n c) ∧ n = (marks (l.take (CK.zero.run l).2.1)).length ∧ (n = 0 ∨ ∃ g, a = some ⟨g, 0, none⟩ ∧ v.heap.size ≤ g ∧ g < w'.heap.size ∧ EvsAt w' g 0 (marks (l.take (CK.zero.run l).2.1))) ∧ Below v.heap.size v w' := by
  have hle := (CK.run_le l CK.zero).1
  have hMM := mk_marks (l := l) (Nat.le_refl _)
  generalize (CK.zero.run l).2.1 = m at hle hMM ⊢
  have hlen : (l.take m).length = m := by rw [List.length_take]; omega
  have h1 : b < v.heap.size := Nat.lt_of_lt_of_le hb (Nat.le_trans hs hB.size)
  have h2 := order_calls (cap := cap) (take_at (hl.below hB hb) m) h1 (by omega) (by omega)
  rw [hlen, hMM] at h2
  exact h2

/-- A block within a code. -/
def _root_.Go.Code.blk (k : Nat) : Code → Option Code
  | .block id c => if id = k then some (.block id c) else c.blk k
  | .seq a b => match a.blk k with
    | some c => some c
    | none => b.blk k
  | .cond _ a b => match a.blk k with
    | some c => some c
    | none => b.blk k
  | .loop c => c.blk k
  | .scope c => c.blk k
  | _ => none

end Go.Proofs.YtigdkcpipiimnaaGreatDoor

namespace Go.Proofs.YtigdkcpipiimnaaGreatDoor
open Go.ChangeShapes Go.WideShapes Go.ChangeAt Go.RowKit Go.Eng Go.Deep

variable {w v v' w' : World} {C E wm : Nat} {lm rm : Option Nat} {c : CK} {e : Ev} {s : AuS}

set_option maxHeartbeats 4000000 in
set_option maxRecDepth 1000000 in
/-- The second loop: what is in order is played again. -/
theorem loopB (code : Code) (hcode : (Tryz.f3.body.bind (Code.blk 0)) = some code) (Q : Exit → Act → World → Prop) (W w7 : World) (B X m nO cO : Nat) (aO : Option Addr) (l : List Ev) (cz : CK) (hBl : B ≤ W.heap.size) (hX : B ≤ X) (hnO100 : nO ≤ 100) (HNO : Aside (nO = (marks (l.take m)).length))
    (HRP2 : Aside (replay CK.zero.s ((marks (l.take m)).drop 0) = some cz.s)) (R7 : RowS w7 X none none false) (HO7 : OrdAt w7 X aO nO (marks (l.take m))) (low7 : Below B W w7)
    {u0 u1 u2 u3 u4 u5 u6 u7 u8 u9 u10 u12 u13 u14 u15 u16 u17 u18 u19 u20 u21 u22 u23 u24 u25 u26 u27 u28 u29 u30 u31 u32 u33 u34 u35 u36 u37 u38 u39 u40 u41 u42 u43 u44 u45 u46 u47 u48 u49 u50 u51 u52 u53 u54 u55 u56 u57 u58 u59 u60 u61 u62 u63 u64 u65 u69 u70 u71 u72 u73 u74 u75 u76 u77 u78 u79 u80 u81 u82 u83 u84 u85 u86 u87 u88 u89 u90 u91 u92 u93 u94 u95 u96 u97 u98 u99 u100 u101 u102 u103 u104 u105 u106 u107 u108 u109 u110 u111 u112 u113 u114 u115 u116 u117 u118 u119 u120 u121 u122 u123 u124 u125 u126 u127 u128 u129 u130 u131 u132 u133 u134 u135 u136 u137 u138 u139 u140 u141 u142 u143 u144 u145 u146 u147 u148 u149 u150 u151 u152 u153 u154 u155 u156 u157 u158 u159 u160 u161 u162 u163 u164 u165 u166 u167 u168 u169 u170 u171 u172 u173 u174 u175 u176 u177 u178 u179 u180 u181 u182 u183 u184 u185 u186 u187 u188 u189 u190 u191 u192 u193 u194 u195 u196 u197 u198 u199 u200 u201 u202 u203 u204 u205 u206 u207 u208 u209 u210 u211 u212 u213 u214 u215 u216 u217 u218 u219 : Value}
    (hQ : Aside (∀ (v4 v13 v14 v68 v69 v70 v71 v72 v73 v74 v75 v76 v77 v78 v79 v80 v81 v82 v83 v84 v85 v86 v87 v88 v89 v90 v91 v92 v93 v94 v95 v96 v97 : Value) (wx : World) (lm rm : Option Nat), cz.s.Inv → RowS wx X lm rm cz.s.c → StAt wx lm rm cz.s → Below B W wx → Q .normal { tmps := #[u0, u1, u2, u3, v4, u5, u6, u7, u8, u9, u10, .pointer (some ⟨X, 0, none⟩), u12, v13, v14, u15, u16, u17, u18, u19, u20, u21, u22, u23, u24, u25, u26, u27, u28, u29, u30, u31, u32, u33, u34, u35, u36, u37, u38, u39, u40, u41, u42, u43, u44, u45, u46, u47, u48, u49, u50, u51, u52, u53, u54, u55, u56, u57, u58, u59, u60, u61, u62, u63, u64, u65, .slice aO nO cO, .int .i64 nO, v68, v69, v70, v71, v72, v73, v74, v75, v76, v77, v78, v79, v80, v81, v82, v83, v84, v85, v86, v87, v88, v89, v90, v91, v92, v93, v94, v95, v96, v97, u98, u99, u100, u101, u102, u103, u104, u105, u106, u107, u108, u109, u110, u111, u112, u113, u114, u115, u116, u117, u118, u119, u120, u121, u122, u123, u124, u125, u126, u127, u128, u129, u130, u131, u132, u133, u134, u135, u136, u137, u138, u139, u140, u141, u142, u143, u144, u145, u146, u147, u148, u149, u150, u151, u152, u153, u154, u155, u156, u157, u158, u159, u160, u161, u162, u163, u164, u165, u166, u167, u168, u169, u170, u171, u172, u173, u174, u175, u176, u177, u178, u179, u180, u181, u182, u183, u184, u185, u186, u187, u188, u189, u190, u191, u192, u193, u194, u195, u196, u197, u198, u199, u200, u201, u202, u203, u204, u205, u206, u207, u208, u209, u210, u211, u212, u213, u214, u215, u216, u217, u218, u219], defers := [] } wx)) :
    code.wp Tryz.prog Q { tmps := #[u0, u1, u2, u3, u4, u5, u6, u7, u8, u9, u10, .pointer (some ⟨X, 0, none⟩), u12, u13, u14, u15, u16, u17, u18, u19, u20, u21, u22, u23, u24, u25, u26, u27, u28, u29, u30, u31, u32, u33, u34, u35, u36, u37, u38, u39, u40, u41, u42, u43, u44, u45, u46, u47, u48, u49, u50, u51, u52, u53, u54, u55, u56, u57, u58, u59, u60, u61, u62, u63, u64, u65, .slice aO nO cO, .int .i64 nO, .int .i64 0, u69, u70, u71, u72, u73, u74, u75, u76, u77, u78, u79, u80, u81, u82, u83, u84, u85, u86, u87, u88, u89, u90, u91, u92, u93, u94, u95, u96, u97, u98, u99, u100, u101, u102, u103, u104, u105, u106, u107, u108, u109, u110, u111, u112, u113, u114, u115, u116, u117, u118, u119, u120, u121, u122, u123, u124, u125, u126, u127, u128, u129, u130, u131, u132, u133, u134, u135, u136, u137, u138, u139, u140, u141, u142, u143, u144, u145, u146, u147, u148, u149, u150, u151, u152, u153, u154, u155, u156, u157, u158, u159, u160, u161, u162, u163, u164, u165, u166, u167, u168, u169, u170, u171, u172, u173, u174, u175, u176, u177, u178, u179, u180, u181, u182, u183, u184, u185, u186, u187, u188, u189, u190, u191, u192, u193, u194, u195, u196, u197, u198, u199, u200, u201, u202, u203, u204, u205, u206, u207, u208, u209, u210, u211, u212, u213, u214, u215, u216, u217, u218, u219], defers := [] } w7 := by
  obtain rfl := Option.some.inj hcode
  clear hcode
  dsimp only at hQ ⊢
  go_wp2
  go_loopg [68] nO (fun gh i wx => ∃ (j : Nat) (s : AuS) (lm rm : Option Nat), j ≤ nO ∧ gh = nO - j ∧ i = .int .i64 j ∧ s.Inv ∧ Aside (replay s ((marks (l.take m)).drop j) = some cz.s) ∧ RowS wx X lm rm s.c ∧ StAt wx lm rm s ∧ OrdAt wx X aO nO (marks (l.take m)) ∧ Below B W wx)
  case atStart => exact ⟨0, ⟨[], [], false⟩, none, none, Nat.zero_le _, rfl, rfl, AuS.inv0, HRP2, R7, st_zero w7, HO7, low7⟩
  case round =>
    clear R7 HO7 low7 HRP2
    obtain ⟨j, s, lm, rm, hj, rfl, rfl, hI, HRPs, row, st, ord, low⟩ := hrel
    by_cases hlt : j < nO
    · obtain ⟨e, he⟩ : ∃ e, (marks (l.take m))[j]? = some e := ⟨_, List.getElem?_eq_getElem (by rw [← HNO.out]; exact hlt)⟩
      obtain ⟨g, rfl, d0, d1, d2, d3, d4, d5⟩ := ord.get hlt he
      have hrp := replay_at HRPs.out he
      have ba := below_alloc wr (.cells #[.int .u64 e.step, .int .i64 e.thread, .int .i64 e.kind, .int .i64 e.op, .int .u64 e.id, .int .i64 e.err] 34)
      have F0 : Ir W B X wr.heap.size lm rm s (some ⟨g, 0, none⟩) nO (marks (l.take m)) e (wr.alloc (.cells #[.int .u64 e.step, .int .i64 e.thread, .int .i64 e.kind, .int .i64 e.op, .int .u64 e.id, .int .i64 e.err] 34)) :=
        ⟨low.alloc (Nat.le_trans hBl low.size) _, hX, row.below ba row.lt, st.below ba, ord.below ba, EvBlk.new wr e, Nat.ne_of_lt row.lt⟩
      have HRA := aside_of hrp
      have HI := aside_of hI
      have hlti : (j : Int) < (nO : Int) := by omega
      clear he hI hrp HRPs row st ord low ba
      generalize hZ : wr.heap.size = Z at F0
      have e2 := F0.ev.q2
      go_upto_if 74 with fail
      clear d0 d1 d2 d3 d4 d5 e2
      generalize wr.alloc (.cells #[.int .u64 e.step, .int .i64 e.thread, .int .i64 e.kind, .int .i64 e.op, .int .u64 e.id, .int .i64 e.err] 34) = v0 at F0 ⊢
      have c0 := F0.row.q0
      have c1 := F0.row.q1
      have c2 := F0.row.q2
      have e4 := F0.ev.q4
      have e2 := F0.ev.q2
      by_cases k3 : e.kind = 3
      · have k3' : (e.kind == 3) = true := by simpa using k3
        have hret := ir_retire F0
        have HRA3 := aside_of (HRA.out.1 k3)
        clear k3
        have HI3 := aside_of (HI.out.retire e.id)
        rw [HRA3.out.1] at hret
        generalize (s.Retire e.id).1 = s' at hret HRA3 HI3
        clear HRA HI
        go_wp2_with (go_at_call 8; with_reducible refine hret.mono ?_; clear hret c0 c1 c2 e4 e2; rintro x w8 ⟨lm', rm', hx, st8, F8⟩; subst hx; have c0 := F8.row.q0; have c1 := F8.row.q1; have c2 := F8.row.q2; have f0 := F8.row.f0; have f1 := F8.row.f1; have f2 := F8.row.f2)
        have F9 := F8.put st8
        go_roundg (nO - (j + 1))
        case measure => omega
        case rel => exact ⟨j + 1, s', lm', rm', by omega, rfl, by go_num, HI3.out, aside_of HRA3.out.2, F9.row, F9.st, F9.ord, F9.low⟩
      · have k3' : (e.kind == 3) = false := by simpa using k3
        have hret := ir_point F0 HI.out
        have HRA3 := aside_of (HRA.out.2 k3)
        clear k3
        have HI3 := aside_of (HI.out.Point e.thread e.op e.id e.err)
        rw [HRA3.out.1] at hret
        generalize (s.Point e.thread e.op e.id e.err).1 = s' at hret HRA3 HI3
        have e1 := F0.ev.q1
        have e3 := F0.ev.q3
        have e5 := F0.ev.q5
        clear HRA HI
        go_wp2_with (go_at_call 9; with_reducible refine hret.mono ?_; clear hret c0 c1 c2 e1 e2 e3 e4 e5; rintro x w8 ⟨lm', rm', hx, st8, F8⟩; subst hx; have c0 := F8.row.q0; have c1 := F8.row.q1; have c2 := F8.row.q2; have f0 := F8.row.f0; have f1 := F8.row.f1; have f2 := F8.row.f2)
        have F9 := F8.put st8
        go_roundg (nO - (j + 1))
        case measure => omega
        case rel => exact ⟨j + 1, s', lm', rm', by omega, rfl, by go_num, HI3.out, aside_of HRA3.out.2, F9.row, F9.st, F9.ord, F9.low⟩
    · obtain rfl : j = nO := by omega
      have hd : (marks (l.take m)).drop j = [] := by rw [List.drop_eq_nil_iff, HNO.out]; exact Nat.le_refl _
      have hs : s = cz.s := by
        have := HRPs.out
        rw [hd, replay] at this
        exact Option.some.inj this
      subst hs
      clear hd HRPs ord HNO
      have HF := aside_of (⟨hI, row, st, low⟩ : cz.s.Inv ∧ RowS wr X lm rm cz.s.c ∧ StAt wr lm rm cz.s ∧ Below B W wr)
      clear hI row st low
      go_wp2
      apply hQ.out
      exact HF.out.1
      exact HF.out.2.1
      exact HF.out.2.2.1
      exact HF.out.2.2.2

end Go.Proofs.YtigdkcpipiimnaaGreatDoor
