/- The law's switch at each act. Conditions: how both bags lie in memory. -/
import Derived.Test.YtbdnlaepeladbaaGreatDoorBgF
import Derived.Deep.CutBlock
set_option linter.unusedSimpArgs false
set_option linter.unusedVariables false
namespace Go.Proofs.YtbdnlaepeladbaaGreatDoor
open Go.ChangeShapes Go.WideShapes Go.ChangeAt Go.RowKit Go.Eng

/-- What the law holds on to: the bag b with the rows B and the list ns; the document's, with the rows Bd and nd, in its box X; the act in Y. -/
structure QB (W : World) (X Y : Nat) (dd id old now st : Int) (b : Nat) (ns : List Int) (B : List (List Int)) (D R : Nat → Prop) (nd : List Int) (Bd : List (List Int)) (a1 : Option Addr) (c1 : Nat) (a2 : Option Addr) (c2 : Nat) (v : World) : Prop where
  bag : PBg v b ns B D R
  dW : ∀ c, D c → W.heap.size ≤ c
  box : v.heap[X]? = some (.cells #[.slice a1 Bd.length c1, .slice a2 nd.length c2] 61 (0, 0))
  l : LstAt fiveK v (.slice a1 Bd.length c1) Bd
  n : LstAt [.int .u64] v (.slice a2 nd.length c2) (oneRows nd)
  hX : W.heap.size ≤ X
  nX : ¬ D X
  n1 : ∀ c, blkOf (.slice a1 Bd.length c1) c → ¬ D c ∧ c ≠ X
  n2 : ∀ c, blkOf (.slice a2 nd.length c2) c → ¬ D c ∧ c ≠ X
  rX : ¬ R X
  act : v.heap[Y]? = some (.cells #[.int .u8 dd, .int .u64 id, .int .u64 old, .int .u64 now, .int .i64 st] 63 (0, 0))
  nY : ¬ D Y
  xy : Y ≠ X
  low : Below W.heap.size W v

variable {W w w' v v' : World} {X Y b : Nat} {dd id old now st : Int} {ns ns' nd nd' : List Int} {B B' Bd Bd' : List (List Int)} {D R S : Nat → Prop} {a1 a2 : Option Addr} {c1 c2 : Nat}

theorem QB.below (h : QB W X Y dd id old now st b ns B D R nd Bd a1 c1 a2 c2 v) (hb : Below v.heap.size v v') : QB W X Y dd id old now st b ns B D R nd Bd a1 c1 a2 c2 v' :=
  ⟨h.bag.below hb, h.dW, (hb.block _ (Array.getElem?_eq_some_iff.1 h.box).1).trans h.box, h.l.below hb, h.n.below hb, h.hX, h.nX, h.n1, h.n2, h.rX, (hb.block _ (Array.getElem?_eq_some_iff.1 h.act).1).trans h.act, h.nY, h.xy, h.low.trans (hb.mono h.low.size)⟩

theorem LstAt.upto {cols : List TK} {u : Value} {l : List (List Int)} (h : LstAt cols v u l) (hu : Upto0 S v v') (hS : ∀ c, blkOf u c → ¬ S c) : LstAt cols v' u l := by
  have hlt := blk_lt h
  obtain ⟨l', h0, h⟩ := h
  refine ⟨l', h0, h.imp (fun h => h) ?_⟩
  rintro ⟨bb, off, cap, cs, e, h1, h2, h3, h4, h5, h6, h7⟩
  have hb : blkOf u bb := ⟨off, _, cap, h1⟩
  exact ⟨bb, off, cap, cs, e, h1, h2, h3, (hu.block bb (hlt bb hb) (hS bb hb)).trans h4, h5, h6, h7⟩

theorem low_upto (h : Below W.heap.size W v) (hu : Upto0 S v v') (hS : ∀ c, S c → W.heap.size ≤ c) : Below W.heap.size W v' :=
  ⟨hu.os.trans h.os, hu.tape.trans h.tape, hu.output.trans h.output, Nat.le_trans h.size hu.size, fun k hk => (hu.block k (Nat.lt_of_lt_of_le hk h.size) (fun hs => by have := hS k hs; omega)).trans (h.block k hk)⟩

/-- The program's bag is changed. -/
theorem QB.acts (h : QB W X Y dd id old now st b ns B D R nd Bd a1 c1 a2 c2 v) (ho : ActOut v b ns' B' D R v') : ∃ D' R', QB W X Y dd id old now st b ns' B' D' R' nd Bd a1 c1 a2 c2 v' := by
  obtain ⟨D', R', hp, hu, hd, hr⟩ := ho
  have hbX := (Array.getElem?_eq_some_iff.1 h.box).1
  have hbY := (Array.getElem?_eq_some_iff.1 h.act).1
  have hlow := h.low.size
  have out : ∀ c, c < v.heap.size → ¬ D c → ¬ D' c := fun c hc hn hd' => by
    rcases hd c hd' with g | g
    · exact hn g
    · omega
  have hrX : ¬ R' X := fun hx => by
    rcases hr X hx with g | g
    · exact h.rX g
    · omega
  exact ⟨D', R', hp, fun c hc => (hd c hc).elim (h.dW c) (fun g => by omega), (hu.block X hbX h.nX).trans h.box, h.l.upto hu fun c hc => (h.n1 c hc).1, h.n.upto hu fun c hc => (h.n2 c hc).1, h.hX, out X hbX h.nX, fun c hc => ⟨out c (blk_lt h.l c hc) (h.n1 c hc).1, (h.n1 c hc).2⟩, fun c hc => ⟨out c (blk_lt h.n c hc) (h.n2 c hc).1, (h.n2 c hc).2⟩, hrX, (hu.block Y hbY h.nY).trans h.act, out Y hbY h.nY, h.xy, low_upto h.low hu h.dW⟩

/-- The document's bag is stored anew. -/
def putX (v : World) (X : Nat) (u1 u2 : Value) : World := (v.setCell ⟨X, 0, none⟩ u1).setCell ⟨X, 1, none⟩ u2
theorem putX_other {u1 u2 : Value} {c : Nat} (h : c ≠ X) : (putX v X u1 u2).heap[c]? = v.heap[c]? := by
  unfold putX
  rw [Below.heap_setCell _ _ _ _ h, Below.heap_setCell _ _ _ _ h]
theorem putX_upto (v : World) (X : Nat) (u1 u2 : Value) : Upto0 (fun c => c = X) v (putX v X u1 u2) :=
  ⟨rfl, rfl, rfl, by unfold putX; simp, fun k _ hk => putX_other hk⟩
theorem putX_row {x1 x2 u1 u2 : Value} {t : TypeId} (h : v.heap[X]? = some (.cells #[x1, x2] t (0, 0))) : (putX v X u1 u2).heap[X]? = some (.cells #[u1, u2] t (0, 0)) := by
  unfold putX
  rw [setCell_heap (setCell_heap h)]; rfl

theorem QB.store {a1' a2' : Option Addr} {c1' c2' : Nat} (h : QB W X Y dd id old now st b ns B D R nd Bd a1 c1 a2 c2 v) (hd : DBg v Bd' nd' (.slice a1 Bd.length c1) (.slice a2 nd.length c2) (.slice a1' Bd'.length c1') (.slice a2' nd'.length c2') v') :
    QB W X Y dd id old now st b ns B D R nd' Bd' a1' c1' a2' c2' (putX v' X (.slice a1' Bd'.length c1') (.slice a2' nd'.length c2')) := by
  have h' := h.below hd.low
  obtain ⟨l, n, _, _, n1, n2, hl⟩ := hd
  have hbX := (Array.getElem?_eq_some_iff.1 h.box).1
  have hDv : ∀ c, D c → c < v.heap.size := h.bag.2.1
  have g1 : ∀ c, blkOf (.slice a1' Bd'.length c1') c → ¬ D c ∧ c ≠ X := fun c hc => by
    rcases n1 with e | hn
    · rw [e] at hc; exact h.n1 c hc
    · have := newV_blk hn c hc
      exact ⟨fun hd => by have := hDv c hd; omega, by omega⟩
  have g2 : ∀ c, blkOf (.slice a2' nd'.length c2') c → ¬ D c ∧ c ≠ X := fun c hc => by
    rcases n2 with e | hn
    · rw [e] at hc; exact h.n2 c hc
    · have := newV_blk hn c hc
      exact ⟨fun hd => by have := hDv c hd; omega, by omega⟩
  have hu := putX_upto v' X (.slice a1' Bd'.length c1') (.slice a2' nd'.length c2')
  exact ⟨h'.bag.upto hu (by rintro c rfl; exact ⟨h.nX, h.rX⟩), h.dW, putX_row h'.box, l.upto hu (fun c hc => (g1 c hc).2), n.upto hu (fun c hc => (g2 c hc).2), h.hX, h.nX, g1, g2, h.rX, (putX_other h.xy).trans h'.act, h.nY, h.xy, low_upto h'.low hu (by rintro c rfl; exact h.hX)⟩

theorem DBg.more {u1 u2 v1 v2 : Value} (h : DBg w B' ns' v1 v2 u1 u2 w') (hb : Below w'.heap.size w' v) : DBg w B' ns' v1 v2 u1 u2 v := ⟨h.l.below hb, h.n.below hb, h.s1, h.s2, h.n1, h.n2, h.low.trans (hb.mono h.low.size)⟩

theorem PBg.word_wf (h : PBg v b ns B D R) (id : Int) : (Lit.int .u64 (wordR B id)).wf = true := by
  obtain ⟨⟨m, L, es, h1⟩, _⟩ := h
  unfold wordR
  cases hr : rfind id B with
  | none => rfl
  | some t =>
    have := (h1.mem hr).2
    obtain ⟨x0, x1, x2, x3, x4, e, _, w1, _⟩ := five_row this
    simp only [List.cons.injEq] at e
    rw [e.2]
    exact w1

theorem QB.cells (h : QB W X Y dd id old now st b ns B D R nd Bd a1 c1 a2 c2 v) : (v.cell? ⟨X, 0, none⟩ = some (.slice a1 Bd.length c1) ∧ v.cell? ⟨X, 1, none⟩ = some (.slice a2 nd.length c2) ∧ v.frozen? ⟨X, 0, none⟩ = false ∧ v.frozen? ⟨X, 1, none⟩ = false) ∧
    v.cell? ⟨Y, 0, none⟩ = some (.int .u8 dd) ∧ v.cell? ⟨Y, 1, none⟩ = some (.int .u64 id) ∧ v.cell? ⟨Y, 2, none⟩ = some (.int .u64 old) ∧ v.cell? ⟨Y, 3, none⟩ = some (.int .u64 now) ∧ v.cell? ⟨Y, 4, none⟩ = some (.int .i64 st) :=
  ⟨bag2 h.box, cells5 h.act⟩

/-- Another bag's blocks. -/
def FreeQ (S : Nat → Prop) (W : World) (X Y : Nat) (D R : Nat → Prop) (u1 u2 : Value) : Prop := ∀ c, S c → W.heap.size ≤ c ∧ ¬ D c ∧ ¬ R c ∧ c ≠ X ∧ c ≠ Y ∧ ¬ blkOf u1 c ∧ ¬ blkOf u2 c

theorem QB.upto (h : QB W X Y dd id old now st b ns B D R nd Bd a1 c1 a2 c2 v) (hu : Upto0 S v v') (hS : FreeQ S W X Y D R (.slice a1 Bd.length c1) (.slice a2 nd.length c2)) : QB W X Y dd id old now st b ns B D R nd Bd a1 c1 a2 c2 v' :=
  ⟨h.bag.upto hu (fun c hc => ⟨(hS c hc).2.1, (hS c hc).2.2.1⟩), h.dW, (hu.block _ (Array.getElem?_eq_some_iff.1 h.box).1 (fun hs => (hS _ hs).2.2.2.1 rfl)).trans h.box, h.l.upto hu (fun c hc hs => (hS c hs).2.2.2.2.2.1 hc), h.n.upto hu (fun c hc hs => (hS c hs).2.2.2.2.2.2 hc), h.hX, h.nX, h.n1, h.n2, h.rX, (hu.block _ (Array.getElem?_eq_some_iff.1 h.act).1 (fun hs => (hS _ hs).2.2.2.2.1 rfl)).trans h.act, h.nY, h.xy, low_upto h.low hu fun c hc => (hS c hc).1⟩

/-- The bag and its copy. -/
structure Two15 (W : World) (X Y : Nat) (dd id old now st : Int) (b : Nat) (ns : List Int) (B : List (List Int)) (D R : Nat → Prop) (b0 : Nat) (ns0 : List Int) (B0 : List (List Int)) (D0 R0 : Nat → Prop) (nd : List Int) (Bd : List (List Int)) (a1 : Option Addr) (c1 : Nat) (a2 : Option Addr) (c2 : Nat) (v : World) : Prop where
  q : QB W X Y dd id old now st b ns B D R nd Bd a1 c1 a2 c2 v
  o : PBg v b0 ns0 B0 D0 R0
  f : FreeQ D0 W X Y D R (.slice a1 Bd.length c1) (.slice a2 nd.length c2)

variable {b0 : Nat} {ns0 ns0' : List Int} {B0 B0' : List (List Int)} {D0 R0 : Nat → Prop}

theorem Two15.below (h : Two15 W X Y dd id old now st b ns B D R b0 ns0 B0 D0 R0 nd Bd a1 c1 a2 c2 v) (hb : Below v.heap.size v v') : Two15 W X Y dd id old now st b ns B D R b0 ns0 B0 D0 R0 nd Bd a1 c1 a2 c2 v' := ⟨h.q.below hb, h.o.below hb, h.f⟩

theorem Two15.acts (h : Two15 W X Y dd id old now st b ns B D R b0 ns0 B0 D0 R0 nd Bd a1 c1 a2 c2 v) (ho : ActOut v b0 ns0' B0' D0 R0 v') : ∃ D0' R0', Two15 W X Y dd id old now st b ns B D R b0 ns0' B0' D0' R0' nd Bd a1 c1 a2 c2 v' := by
  obtain ⟨D', R', hp, hu, hd, _⟩ := ho
  have hbX := (Array.getElem?_eq_some_iff.1 h.q.box).1
  have hbY := (Array.getElem?_eq_some_iff.1 h.q.act).1
  have hlow := h.q.low.size
  refine ⟨D', R', h.q.upto hu h.f, hp, fun c hc => ?_⟩
  rcases hd c hc with g | g
  · exact h.f c g
  · exact ⟨by omega, fun x => by have := h.q.bag.2.1 c x; omega, fun x => by have := (h.q.bag.2.2 c x).1; omega, by omega, by omega, fun x => by have := blk_lt h.q.l c x; omega, fun x => by have := blk_lt h.q.n c x; omega⟩

/-- The copy takes the bag's place. -/
theorem QB.clone {b' : Nat} {D' : Nat → Prop} (h : QB W X Y dd id old now st b ns B D R nd Bd a1 c1 a2 c2 v) (hp : PBg v' b' ns B D' R) (hn : ∀ c, D' c → v.heap.size ≤ c) (hb : Below v.heap.size v v') :
    Two15 W X Y dd id old now st b' ns B D' R b ns B D R nd Bd a1 c1 a2 c2 v' := by
  have h' := h.below hb
  have hbX := (Array.getElem?_eq_some_iff.1 h.box).1
  have hbY := (Array.getElem?_eq_some_iff.1 h.act).1
  have hlow := h.low.size
  refine ⟨⟨hp, fun c hc => Nat.le_trans hlow (hn c hc), h'.box, h'.l, h'.n, h.hX, fun hd => by have := hn X hd; omega, fun c hc => ⟨fun hd => by have := hn c hd; have := blk_lt h.l c hc; omega, (h.n1 c hc).2⟩, fun c hc => ⟨fun hd => by have := hn c hd; have := blk_lt h.n c hc; omega, (h.n2 c hc).2⟩, h.rX, h'.act, fun hd => by have := hn Y hd; omega, h.xy, h'.low⟩, h'.bag, fun c hc => ⟨h.dW c hc, fun hd => by have := hn c hd; have := h.bag.2.1 c hc; omega, fun hr => (h.bag.2.2 c hr).2 hc, fun e => h.nX (e ▸ hc), fun e => h.nY (e ▸ hc), fun x => (h.n1 c x).1 hc, fun x => (h.n2 c x).1 hc⟩⟩

end Go.Proofs.YtbdnlaepeladbaaGreatDoor

namespace Go.Proofs.YtbdnlaepeladbaaGreatDoor
open Go.ChangeShapes Go.WideShapes Go.ChangeAt Go.RowKit Go.Eng

/-- A block within a code. -/
def _root_.Go.Code.blk (k : Nat) : Code → Option Code
  | .block id c => if id = k then some (.block id c) else c.blk k
  | .seq a b => match a.blk k with
    | some x => some x
    | none => b.blk k
  | .cond _ a b => match a.blk k with
    | some x => some x
    | none => b.blk k
  | .loop c => c.blk k
  | .scope c => c.blk k
  | _ => none

variable {W w : World} {X Y b : Nat} {dd id old now st q : Int} {ns : List Int} {B : List (List Int)} {D R : Nat → Prop} {a1 a2 : Option Addr} {c1 c2 : Nat}

set_option maxHeartbeats 4000000 in
set_option maxRecDepth 1000000 in
theorem arm_enter (code : Code) (hcode : (Tryz.f5.body.bind (Code.blk 4)) = some code) (Q : Exit → Act → World → Prop)
    (hq : QB W X Y dd id old now st b ns B D R ns B a1 c1 a2 c2 w) (hlB : B.length ≤ 500) (hln : ns.length ≤ 500) (hid : (Lit.int .u64 id).wf = true) (hold : (Lit.int .u64 old).wf = true) (hnow : (Lit.int .u64 now).wf = true) (hst : (Lit.int .i64 st).wf = true) (hd0 : 0 ≤ dd) (hdq : dd % 8 = q) (hq3 : q = 0 ∨ q = 1)
    {u0 u1 u2 u5 u7 u8 u9 u10 u13 u14 u15 u16 u17 u18 u19 u20 u21 u22 u23 u24 u25 u26 u27 u28 u29 u30 u31 u32 u33 u34 u35 u36 u37 u38 u39 u40 u41 u42 u43 u44 u45 u46 u47 u48 u49 u50 u51 u52 u53 u54 u55 u56 u57 u58 u59 u60 u61 u62 u63 u64 u66 u67 u68 u69 u70 u71 u72 u73 u74 u75 u76 u77 u78 u79 u80 u81 u82 u83 u84 u85 u86 u87 u88 u89 u90 u91 u92 u93 u94 u95 u96 u97 u98 u99 u100 u101 u102 u103 u104 u105 u106 u107 u108 u109 u110 u111 u112 u113 u114 u115 u116 u117 u118 u119 u120 u121 u122 u123 u124 u125 u126 u127 u128 u129 u130 u131 u132 u133 u134 u135 u136 u137 u138 u139 u140 u141 u142 u143 u144 u145 u146 u147 u148 u149 u150 u151 u152 u153 u154 u155 u156 u157 u158 u159 u160 u161 u162 u163 u164 u165 u166 u167 u168 u169 u170 u171 u172 u173 u174 u175 u176 u177 u178 u179 u180 u181 u182 u183 u184 u185 u186 u187 u188 u189 u190 u191 u192 u193 u194 u195 u196 u197 u198 u199 u200 u201 u202 u203 u204 u205 u206 u207 u208 u209 : Value}
    (hQ : Aside (∀ (v13 v14 v15 v16 v17 v18 v19 v66 v67 v68 v69 v70 v71 v72 v73 v74 v75 v76 v77 v78 v79 v80 v81 v82 v83 v84 v85 v86 v87 v88 v89 v90 v91 v92 v93 v94 v95 v96 v97 v98 v99 v100 v101 v102 v103 v104 v105 v106 v107 v108 v109 v110 v111 v112 v113 v114 v115 v116 v117 v118 v119 v120 v121 v122 v123 v124 v125 v126 v127 v128 v129 v130 v131 v132 v133 v134 v135 v136 v137 v138 v139 v140 v141 v142 v143 v144 v145 v146 v147 v148 v149 v150 v151 v152 v153 v154 v155 v156 v157 v158 v159 v160 v161 v162 v163 v164 v165 v166 v167 v168 v169 v170 v171 v172 v173 v174 v175 v176 v177 v178 : Value) (wx : World) (f : Int) (ns' : List Int) (B' : List (List Int)) (D' R' : Nat → Prop) (a1 : Option Addr) (c1 : Nat) (a2 : Option Addr) (c2 : Nat), QB W X Y dd id old now st b ns' B' D' R' ns' B' a1 c1 a2 c2 wx → B'.length ≤ B.length + 1 → ns'.length ≤ ns.length + 1 → Q .normal { tmps := #[u0, u1, u2, .pointer (some ⟨b, 0, none⟩), .pointer (some ⟨X, 0, none⟩), u5, .pointer (some ⟨Y, 0, none⟩), u7, u8, u9, u10, .int .i64 f, .int .i64 f, v13, v14, v15, v16, v17, v18, v19, u20, u21, u22, u23, u24, u25, u26, u27, u28, u29, u30, u31, u32, u33, u34, u35, u36, u37, u38, u39, u40, u41, u42, u43, u44, u45, u46, u47, u48, u49, u50, u51, u52, u53, u54, u55, u56, u57, u58, u59, u60, u61, u62, u63, u64, .int .u8 q, v66, v67, v68, v69, v70, v71, v72, v73, v74, v75, v76, v77, v78, v79, v80, v81, v82, v83, v84, v85, v86, v87, v88, v89, v90, v91, v92, v93, v94, v95, v96, v97, v98, v99, v100, v101, v102, v103, v104, v105, v106, v107, v108, v109, v110, v111, v112, v113, v114, v115, v116, v117, v118, v119, v120, v121, v122, v123, v124, v125, v126, v127, v128, v129, v130, v131, v132, v133, v134, v135, v136, v137, v138, v139, v140, v141, v142, v143, v144, v145, v146, v147, v148, v149, v150, v151, v152, v153, v154, v155, v156, v157, v158, v159, v160, v161, v162, v163, v164, v165, v166, v167, v168, v169, v170, v171, v172, v173, v174, v175, v176, v177, v178, u179, u180, u181, u182, u183, u184, u185, u186, u187, u188, u189, u190, u191, u192, u193, u194, u195, u196, u197, u198, u199, u200, u201, u202, u203, u204, u205, u206, u207, u208, u209], defers := [] } wx)) :
    code.wp Tryz.prog Q { tmps := #[u0, u1, u2, .pointer (some ⟨b, 0, none⟩), .pointer (some ⟨X, 0, none⟩), u5, .pointer (some ⟨Y, 0, none⟩), u7, u8, u9, u10, .int .i64 0, .int .i64 0, u13, u14, u15, u16, u17, u18, u19, u20, u21, u22, u23, u24, u25, u26, u27, u28, u29, u30, u31, u32, u33, u34, u35, u36, u37, u38, u39, u40, u41, u42, u43, u44, u45, u46, u47, u48, u49, u50, u51, u52, u53, u54, u55, u56, u57, u58, u59, u60, u61, u62, u63, u64, .int .u8 q, u66, u67, u68, u69, u70, u71, u72, u73, u74, u75, u76, u77, u78, u79, u80, u81, u82, u83, u84, u85, u86, u87, u88, u89, u90, u91, u92, u93, u94, u95, u96, u97, u98, u99, u100, u101, u102, u103, u104, u105, u106, u107, u108, u109, u110, u111, u112, u113, u114, u115, u116, u117, u118, u119, u120, u121, u122, u123, u124, u125, u126, u127, u128, u129, u130, u131, u132, u133, u134, u135, u136, u137, u138, u139, u140, u141, u142, u143, u144, u145, u146, u147, u148, u149, u150, u151, u152, u153, u154, u155, u156, u157, u158, u159, u160, u161, u162, u163, u164, u165, u166, u167, u168, u169, u170, u171, u172, u173, u174, u175, u176, u177, u178, u179, u180, u181, u182, u183, u184, u185, u186, u187, u188, u189, u190, u191, u192, u193, u194, u195, u196, u197, u198, u199, u200, u201, u202, u203, u204, u205, u206, u207, u208, u209], defers := [] } w := by
  obtain rfl := Option.some.inj hcode
  clear hcode
  dsimp only at hQ ⊢
  rcases hq3 with rfl | rfl
  all_goals
    have hp := penter hq.bag hid hst hnow
    obtain ⟨B2, hB2⟩ : ∃ B2, B2 = enterB B id st now := ⟨_, rfl⟩
    have L1 := aside_of (show B2.length ≤ B.length + 1 from by rw [hB2]; exact enterB_length _ _ _ _)
    have L2 := aside_of (Nat.le_succ ns.length)
    obtain ⟨f, hf⟩ : ∃ f, f = enterE B id st := ⟨_, rfl⟩
    have HFF := aside_of (And.intro hB2 hf)
    rw [← hB2, ← hf] at hp
    clear hf hB2
    obtain ⟨⟨q0, q1, f0, f1⟩, y0, y1, y2, y3, y4⟩ := (hq).cells
    have HF := aside_of hq
    go_upto_region 24 with (go_at_call 41; with_reducible refine hp.mono ?_; clear hp; rintro e w1 ⟨he, ho⟩; subst he)
    obtain ⟨D', R', F1⟩ := HF.out.acts ho
    have hr := denter F1.l F1.n (by omega) (st := st) hid hnow
    rw [← HFF.out.1, ← HFF.out.2] at hr
    clear q0 q1 f0 f1 y0 y1 y2 y3 y4
    obtain ⟨⟨q0, q1, f0, f1⟩, y0, y1, y2, y3, y4⟩ := (F1).cells
    have H1 := aside_of F1
    clear F1 ho hq HF
    unfold DOut at hr
    go_wp2_with (go_at_call 42; with_reducible refine hr.mono ?_; clear hr; rintro e w2 ⟨u1, u2, he, hd⟩; obtain ⟨a1', c1', e1⟩ := hd.s1; obtain ⟨a2', c2', e2⟩ := hd.s2; subst e1; subst e2; subst he; have HD := aside_of hd; clear q0 q1 f0 f1 y0 y1 y2 y3 y4; obtain ⟨⟨q0, q1, f0, f1⟩, y0, y1, y2, y3, y4⟩ := (H1.out.below hd.low).cells; clear hd)
    have F3 := H1.out.store HD.out
    unfold putX at F3
    have HZ := aside_of F3
    exact hQ.out _ _ _ _ _ _ _ _ _ _ _ _ _ _ _ _ _ _ _ _ _ _ _ _ _ _ _ _ _ _ _ _ _ _ _ _ _ _ _ _ _ _ _ _ _ _ _ _ _ _ _ _ _ _ _ _ _ _ _ _ _ _ _ _ _ _ _ _ _ _ _ _ _ _ _ _ _ _ _ _ _ _ _ _ _ _ _ _ _ _ _ _ _ _ _ _ _ _ _ _ _ _ _ _ _ _ _ _ _ _ _ _ _ _ _ _ _ _ _ _ _ _ _ _ _ _ _ _ _ _ HZ.out L1.out L2.out

set_option maxHeartbeats 4000000 in
set_option maxRecDepth 1000000 in
theorem arm_proved (code : Code) (hcode : (Tryz.f5.body.bind (Code.blk 4)) = some code) (Q : Exit → Act → World → Prop)
    (hq : QB W X Y dd id old now st b ns B D R ns B a1 c1 a2 c2 w) (hlB : B.length ≤ 500) (hln : ns.length ≤ 500) (hid : (Lit.int .u64 id).wf = true) (hold : (Lit.int .u64 old).wf = true) (hnow : (Lit.int .u64 now).wf = true) (hst : (Lit.int .i64 st).wf = true) (hd0 : 0 ≤ dd) (hdq : dd % 8 = q) (hq3 : q = 5)
    {u0 u1 u2 u5 u7 u8 u9 u10 u13 u14 u15 u16 u17 u18 u19 u20 u21 u22 u23 u24 u25 u26 u27 u28 u29 u30 u31 u32 u33 u34 u35 u36 u37 u38 u39 u40 u41 u42 u43 u44 u45 u46 u47 u48 u49 u50 u51 u52 u53 u54 u55 u56 u57 u58 u59 u60 u61 u62 u63 u64 u66 u67 u68 u69 u70 u71 u72 u73 u74 u75 u76 u77 u78 u79 u80 u81 u82 u83 u84 u85 u86 u87 u88 u89 u90 u91 u92 u93 u94 u95 u96 u97 u98 u99 u100 u101 u102 u103 u104 u105 u106 u107 u108 u109 u110 u111 u112 u113 u114 u115 u116 u117 u118 u119 u120 u121 u122 u123 u124 u125 u126 u127 u128 u129 u130 u131 u132 u133 u134 u135 u136 u137 u138 u139 u140 u141 u142 u143 u144 u145 u146 u147 u148 u149 u150 u151 u152 u153 u154 u155 u156 u157 u158 u159 u160 u161 u162 u163 u164 u165 u166 u167 u168 u169 u170 u171 u172 u173 u174 u175 u176 u177 u178 u179 u180 u181 u182 u183 u184 u185 u186 u187 u188 u189 u190 u191 u192 u193 u194 u195 u196 u197 u198 u199 u200 u201 u202 u203 u204 u205 u206 u207 u208 u209 : Value}
    (hQ : Aside (∀ (v13 v14 v15 v16 v17 v18 v19 v66 v67 v68 v69 v70 v71 v72 v73 v74 v75 v76 v77 v78 v79 v80 v81 v82 v83 v84 v85 v86 v87 v88 v89 v90 v91 v92 v93 v94 v95 v96 v97 v98 v99 v100 v101 v102 v103 v104 v105 v106 v107 v108 v109 v110 v111 v112 v113 v114 v115 v116 v117 v118 v119 v120 v121 v122 v123 v124 v125 v126 v127 v128 v129 v130 v131 v132 v133 v134 v135 v136 v137 v138 v139 v140 v141 v142 v143 v144 v145 v146 v147 v148 v149 v150 v151 v152 v153 v154 v155 v156 v157 v158 v159 v160 v161 v162 v163 v164 v165 v166 v167 v168 v169 v170 v171 v172 v173 v174 v175 v176 v177 v178 : Value) (wx : World) (f : Int) (ns' : List Int) (B' : List (List Int)) (D' R' : Nat → Prop) (a1 : Option Addr) (c1 : Nat) (a2 : Option Addr) (c2 : Nat), QB W X Y dd id old now st b ns' B' D' R' ns' B' a1 c1 a2 c2 wx → B'.length ≤ B.length + 1 → ns'.length ≤ ns.length + 1 → Q .normal { tmps := #[u0, u1, u2, .pointer (some ⟨b, 0, none⟩), .pointer (some ⟨X, 0, none⟩), u5, .pointer (some ⟨Y, 0, none⟩), u7, u8, u9, u10, .int .i64 f, .int .i64 f, v13, v14, v15, v16, v17, v18, v19, u20, u21, u22, u23, u24, u25, u26, u27, u28, u29, u30, u31, u32, u33, u34, u35, u36, u37, u38, u39, u40, u41, u42, u43, u44, u45, u46, u47, u48, u49, u50, u51, u52, u53, u54, u55, u56, u57, u58, u59, u60, u61, u62, u63, u64, .int .u8 q, v66, v67, v68, v69, v70, v71, v72, v73, v74, v75, v76, v77, v78, v79, v80, v81, v82, v83, v84, v85, v86, v87, v88, v89, v90, v91, v92, v93, v94, v95, v96, v97, v98, v99, v100, v101, v102, v103, v104, v105, v106, v107, v108, v109, v110, v111, v112, v113, v114, v115, v116, v117, v118, v119, v120, v121, v122, v123, v124, v125, v126, v127, v128, v129, v130, v131, v132, v133, v134, v135, v136, v137, v138, v139, v140, v141, v142, v143, v144, v145, v146, v147, v148, v149, v150, v151, v152, v153, v154, v155, v156, v157, v158, v159, v160, v161, v162, v163, v164, v165, v166, v167, v168, v169, v170, v171, v172, v173, v174, v175, v176, v177, v178, u179, u180, u181, u182, u183, u184, u185, u186, u187, u188, u189, u190, u191, u192, u193, u194, u195, u196, u197, u198, u199, u200, u201, u202, u203, u204, u205, u206, u207, u208, u209], defers := [] } wx)) :
    code.wp Tryz.prog Q { tmps := #[u0, u1, u2, .pointer (some ⟨b, 0, none⟩), .pointer (some ⟨X, 0, none⟩), u5, .pointer (some ⟨Y, 0, none⟩), u7, u8, u9, u10, .int .i64 0, .int .i64 0, u13, u14, u15, u16, u17, u18, u19, u20, u21, u22, u23, u24, u25, u26, u27, u28, u29, u30, u31, u32, u33, u34, u35, u36, u37, u38, u39, u40, u41, u42, u43, u44, u45, u46, u47, u48, u49, u50, u51, u52, u53, u54, u55, u56, u57, u58, u59, u60, u61, u62, u63, u64, .int .u8 q, u66, u67, u68, u69, u70, u71, u72, u73, u74, u75, u76, u77, u78, u79, u80, u81, u82, u83, u84, u85, u86, u87, u88, u89, u90, u91, u92, u93, u94, u95, u96, u97, u98, u99, u100, u101, u102, u103, u104, u105, u106, u107, u108, u109, u110, u111, u112, u113, u114, u115, u116, u117, u118, u119, u120, u121, u122, u123, u124, u125, u126, u127, u128, u129, u130, u131, u132, u133, u134, u135, u136, u137, u138, u139, u140, u141, u142, u143, u144, u145, u146, u147, u148, u149, u150, u151, u152, u153, u154, u155, u156, u157, u158, u159, u160, u161, u162, u163, u164, u165, u166, u167, u168, u169, u170, u171, u172, u173, u174, u175, u176, u177, u178, u179, u180, u181, u182, u183, u184, u185, u186, u187, u188, u189, u190, u191, u192, u193, u194, u195, u196, u197, u198, u199, u200, u201, u202, u203, u204, u205, u206, u207, u208, u209], defers := [] } w := by
  obtain rfl := Option.some.inj hcode
  clear hcode
  dsimp only at hQ ⊢
  subst hq3
  have hp := pproved hq.bag hid hnow
  obtain ⟨B2, hB2⟩ : ∃ B2, B2 = provedB B id now := ⟨_, rfl⟩
  have L1 := aside_of (show B2.length ≤ B.length + 1 from by rw [hB2]; exact Nat.le_succ_of_le (provedB_length _ _ _))
  have L2 := aside_of (Nat.le_succ ns.length)
  obtain ⟨f, hf⟩ : ∃ f, f = knownE B id := ⟨_, rfl⟩
  have HFF := aside_of (And.intro hB2 hf)
  rw [← hB2, ← hf] at hp
  clear hf hB2
  obtain ⟨⟨q0, q1, f0, f1⟩, y0, y1, y2, y3, y4⟩ := (hq).cells
  have HF := aside_of hq
  go_upto_region 38 with (go_at_call 36; with_reducible refine hp.mono ?_; clear hp; rintro e w1 ⟨he, ho⟩; subst he)
  obtain ⟨D', R', F1⟩ := HF.out.acts ho
  have hr := dproved F1.l F1.n (by omega) (id := id) hnow
  rw [← HFF.out.1, ← HFF.out.2] at hr
  clear q0 q1 f0 f1 y0 y1 y2 y3 y4
  obtain ⟨⟨q0, q1, f0, f1⟩, y0, y1, y2, y3, y4⟩ := (F1).cells
  have H1 := aside_of F1
  clear F1 ho hq HF
  unfold DOut at hr
  go_wp2_with (go_at_call 37; with_reducible refine hr.mono ?_; clear hr; rintro e w2 ⟨u1, u2, he, hd⟩; obtain ⟨a1', c1', e1⟩ := hd.s1; obtain ⟨a2', c2', e2⟩ := hd.s2; subst e1; subst e2; subst he; have HD := aside_of hd; clear q0 q1 f0 f1 y0 y1 y2 y3 y4; obtain ⟨⟨q0, q1, f0, f1⟩, y0, y1, y2, y3, y4⟩ := (H1.out.below hd.low).cells; clear hd)
  have F3 := H1.out.store HD.out
  unfold putX at F3
  have HZ := aside_of F3
  exact hQ.out _ _ _ _ _ _ _ _ _ _ _ _ _ _ _ _ _ _ _ _ _ _ _ _ _ _ _ _ _ _ _ _ _ _ _ _ _ _ _ _ _ _ _ _ _ _ _ _ _ _ _ _ _ _ _ _ _ _ _ _ _ _ _ _ _ _ _ _ _ _ _ _ _ _ _ _ _ _ _ _ _ _ _ _ _ _ _ _ _ _ _ _ _ _ _ _ _ _ _ _ _ _ _ _ _ _ _ _ _ _ _ _ _ _ _ _ _ _ _ _ _ _ _ _ _ _ _ _ _ _ HZ.out L1.out L2.out

set_option maxHeartbeats 4000000 in
set_option maxRecDepth 1000000 in
theorem arm_publish (code : Code) (hcode : (Tryz.f5.body.bind (Code.blk 4)) = some code) (Q : Exit → Act → World → Prop)
    (hq : QB W X Y dd id old now st b ns B D R ns B a1 c1 a2 c2 w) (hlB : B.length ≤ 500) (hln : ns.length ≤ 500) (hid : (Lit.int .u64 id).wf = true) (hold : (Lit.int .u64 old).wf = true) (hnow : (Lit.int .u64 now).wf = true) (hst : (Lit.int .i64 st).wf = true) (hd0 : 0 ≤ dd) (hdq : dd % 8 = q) (hq3 : q = 6)
    {u0 u1 u2 u5 u7 u8 u9 u10 u13 u14 u15 u16 u17 u18 u19 u20 u21 u22 u23 u24 u25 u26 u27 u28 u29 u30 u31 u32 u33 u34 u35 u36 u37 u38 u39 u40 u41 u42 u43 u44 u45 u46 u47 u48 u49 u50 u51 u52 u53 u54 u55 u56 u57 u58 u59 u60 u61 u62 u63 u64 u66 u67 u68 u69 u70 u71 u72 u73 u74 u75 u76 u77 u78 u79 u80 u81 u82 u83 u84 u85 u86 u87 u88 u89 u90 u91 u92 u93 u94 u95 u96 u97 u98 u99 u100 u101 u102 u103 u104 u105 u106 u107 u108 u109 u110 u111 u112 u113 u114 u115 u116 u117 u118 u119 u120 u121 u122 u123 u124 u125 u126 u127 u128 u129 u130 u131 u132 u133 u134 u135 u136 u137 u138 u139 u140 u141 u142 u143 u144 u145 u146 u147 u148 u149 u150 u151 u152 u153 u154 u155 u156 u157 u158 u159 u160 u161 u162 u163 u164 u165 u166 u167 u168 u169 u170 u171 u172 u173 u174 u175 u176 u177 u178 u179 u180 u181 u182 u183 u184 u185 u186 u187 u188 u189 u190 u191 u192 u193 u194 u195 u196 u197 u198 u199 u200 u201 u202 u203 u204 u205 u206 u207 u208 u209 : Value}
    (hQ : Aside (∀ (v13 v14 v15 v16 v17 v18 v19 v66 v67 v68 v69 v70 v71 v72 v73 v74 v75 v76 v77 v78 v79 v80 v81 v82 v83 v84 v85 v86 v87 v88 v89 v90 v91 v92 v93 v94 v95 v96 v97 v98 v99 v100 v101 v102 v103 v104 v105 v106 v107 v108 v109 v110 v111 v112 v113 v114 v115 v116 v117 v118 v119 v120 v121 v122 v123 v124 v125 v126 v127 v128 v129 v130 v131 v132 v133 v134 v135 v136 v137 v138 v139 v140 v141 v142 v143 v144 v145 v146 v147 v148 v149 v150 v151 v152 v153 v154 v155 v156 v157 v158 v159 v160 v161 v162 v163 v164 v165 v166 v167 v168 v169 v170 v171 v172 v173 v174 v175 v176 v177 v178 : Value) (wx : World) (f : Int) (ns' : List Int) (B' : List (List Int)) (D' R' : Nat → Prop) (a1 : Option Addr) (c1 : Nat) (a2 : Option Addr) (c2 : Nat), QB W X Y dd id old now st b ns' B' D' R' ns' B' a1 c1 a2 c2 wx → B'.length ≤ B.length + 1 → ns'.length ≤ ns.length + 1 → Q .normal { tmps := #[u0, u1, u2, .pointer (some ⟨b, 0, none⟩), .pointer (some ⟨X, 0, none⟩), u5, .pointer (some ⟨Y, 0, none⟩), u7, u8, u9, u10, .int .i64 f, .int .i64 f, v13, v14, v15, v16, v17, v18, v19, u20, u21, u22, u23, u24, u25, u26, u27, u28, u29, u30, u31, u32, u33, u34, u35, u36, u37, u38, u39, u40, u41, u42, u43, u44, u45, u46, u47, u48, u49, u50, u51, u52, u53, u54, u55, u56, u57, u58, u59, u60, u61, u62, u63, u64, .int .u8 q, v66, v67, v68, v69, v70, v71, v72, v73, v74, v75, v76, v77, v78, v79, v80, v81, v82, v83, v84, v85, v86, v87, v88, v89, v90, v91, v92, v93, v94, v95, v96, v97, v98, v99, v100, v101, v102, v103, v104, v105, v106, v107, v108, v109, v110, v111, v112, v113, v114, v115, v116, v117, v118, v119, v120, v121, v122, v123, v124, v125, v126, v127, v128, v129, v130, v131, v132, v133, v134, v135, v136, v137, v138, v139, v140, v141, v142, v143, v144, v145, v146, v147, v148, v149, v150, v151, v152, v153, v154, v155, v156, v157, v158, v159, v160, v161, v162, v163, v164, v165, v166, v167, v168, v169, v170, v171, v172, v173, v174, v175, v176, v177, v178, u179, u180, u181, u182, u183, u184, u185, u186, u187, u188, u189, u190, u191, u192, u193, u194, u195, u196, u197, u198, u199, u200, u201, u202, u203, u204, u205, u206, u207, u208, u209], defers := [] } wx)) :
    code.wp Tryz.prog Q { tmps := #[u0, u1, u2, .pointer (some ⟨b, 0, none⟩), .pointer (some ⟨X, 0, none⟩), u5, .pointer (some ⟨Y, 0, none⟩), u7, u8, u9, u10, .int .i64 0, .int .i64 0, u13, u14, u15, u16, u17, u18, u19, u20, u21, u22, u23, u24, u25, u26, u27, u28, u29, u30, u31, u32, u33, u34, u35, u36, u37, u38, u39, u40, u41, u42, u43, u44, u45, u46, u47, u48, u49, u50, u51, u52, u53, u54, u55, u56, u57, u58, u59, u60, u61, u62, u63, u64, .int .u8 q, u66, u67, u68, u69, u70, u71, u72, u73, u74, u75, u76, u77, u78, u79, u80, u81, u82, u83, u84, u85, u86, u87, u88, u89, u90, u91, u92, u93, u94, u95, u96, u97, u98, u99, u100, u101, u102, u103, u104, u105, u106, u107, u108, u109, u110, u111, u112, u113, u114, u115, u116, u117, u118, u119, u120, u121, u122, u123, u124, u125, u126, u127, u128, u129, u130, u131, u132, u133, u134, u135, u136, u137, u138, u139, u140, u141, u142, u143, u144, u145, u146, u147, u148, u149, u150, u151, u152, u153, u154, u155, u156, u157, u158, u159, u160, u161, u162, u163, u164, u165, u166, u167, u168, u169, u170, u171, u172, u173, u174, u175, u176, u177, u178, u179, u180, u181, u182, u183, u184, u185, u186, u187, u188, u189, u190, u191, u192, u193, u194, u195, u196, u197, u198, u199, u200, u201, u202, u203, u204, u205, u206, u207, u208, u209], defers := [] } w := by
  obtain rfl := Option.some.inj hcode
  clear hcode
  dsimp only at hQ ⊢
  subst hq3
  have hp := ppublish hq.bag (by omega) hid
  obtain ⟨n2, hB2⟩ : ∃ n2, n2 = if (rfind id B).isSome then withL ns id else ns := ⟨_, rfl⟩
  have L1 := aside_of (Nat.le_succ B.length)
  have L2 := aside_of (show n2.length ≤ ns.length + 1 from by rw [hB2]; exact by split; exact withL_length _ _; exact Nat.le_succ _)
  obtain ⟨f, hf⟩ : ∃ f, f = knownE B id := ⟨_, rfl⟩
  have HFF := aside_of (And.intro hB2 hf)
  rw [← hB2, ← hf] at hp
  clear hf hB2
  obtain ⟨⟨q0, q1, f0, f1⟩, y0, y1, y2, y3, y4⟩ := (hq).cells
  have HF := aside_of hq
  go_upto_region 41 with (go_at_call 34; with_reducible refine hp.mono ?_; clear hp; rintro e w1 ⟨he, ho⟩; subst he)
  obtain ⟨D', R', F1⟩ := HF.out.acts ho
  have hr := dpublish F1.l F1.n (by omega) (by omega) hid
  rw [← HFF.out.1, ← HFF.out.2] at hr
  clear q0 q1 f0 f1 y0 y1 y2 y3 y4
  obtain ⟨⟨q0, q1, f0, f1⟩, y0, y1, y2, y3, y4⟩ := (F1).cells
  have H1 := aside_of F1
  clear F1 ho hq HF
  unfold DOut at hr
  go_wp2_with (go_at_call 38; with_reducible refine hr.mono ?_; clear hr; rintro e w2 ⟨u1, u2, he, hd⟩; obtain ⟨a1', c1', e1⟩ := hd.s1; obtain ⟨a2', c2', e2⟩ := hd.s2; subst e1; subst e2; subst he; have HD := aside_of hd; clear q0 q1 f0 f1 y0 y1 y2 y3 y4; obtain ⟨⟨q0, q1, f0, f1⟩, y0, y1, y2, y3, y4⟩ := (H1.out.below hd.low).cells; clear hd)
  have F3 := H1.out.store HD.out
  unfold putX at F3
  have HZ := aside_of F3
  exact hQ.out _ _ _ _ _ _ _ _ _ _ _ _ _ _ _ _ _ _ _ _ _ _ _ _ _ _ _ _ _ _ _ _ _ _ _ _ _ _ _ _ _ _ _ _ _ _ _ _ _ _ _ _ _ _ _ _ _ _ _ _ _ _ _ _ _ _ _ _ _ _ _ _ _ _ _ _ _ _ _ _ _ _ _ _ _ _ _ _ _ _ _ _ _ _ _ _ _ _ _ _ _ _ _ _ _ _ _ _ _ _ _ _ _ _ _ _ _ _ _ _ _ _ _ _ _ _ _ _ _ _ HZ.out L1.out L2.out

set_option maxHeartbeats 4000000 in
set_option maxRecDepth 1000000 in
theorem arm_unlist (code : Code) (hcode : (Tryz.f5.body.bind (Code.blk 4)) = some code) (Q : Exit → Act → World → Prop)
    (hq : QB W X Y dd id old now st b ns B D R ns B a1 c1 a2 c2 w) (hlB : B.length ≤ 500) (hln : ns.length ≤ 500) (hid : (Lit.int .u64 id).wf = true) (hold : (Lit.int .u64 old).wf = true) (hnow : (Lit.int .u64 now).wf = true) (hst : (Lit.int .i64 st).wf = true) (hd0 : 0 ≤ dd) (hdq : dd % 8 = q) (hq3 : q = 7)
    {u0 u1 u2 u5 u7 u8 u9 u10 u13 u14 u15 u16 u17 u18 u19 u20 u21 u22 u23 u24 u25 u26 u27 u28 u29 u30 u31 u32 u33 u34 u35 u36 u37 u38 u39 u40 u41 u42 u43 u44 u45 u46 u47 u48 u49 u50 u51 u52 u53 u54 u55 u56 u57 u58 u59 u60 u61 u62 u63 u64 u66 u67 u68 u69 u70 u71 u72 u73 u74 u75 u76 u77 u78 u79 u80 u81 u82 u83 u84 u85 u86 u87 u88 u89 u90 u91 u92 u93 u94 u95 u96 u97 u98 u99 u100 u101 u102 u103 u104 u105 u106 u107 u108 u109 u110 u111 u112 u113 u114 u115 u116 u117 u118 u119 u120 u121 u122 u123 u124 u125 u126 u127 u128 u129 u130 u131 u132 u133 u134 u135 u136 u137 u138 u139 u140 u141 u142 u143 u144 u145 u146 u147 u148 u149 u150 u151 u152 u153 u154 u155 u156 u157 u158 u159 u160 u161 u162 u163 u164 u165 u166 u167 u168 u169 u170 u171 u172 u173 u174 u175 u176 u177 u178 u179 u180 u181 u182 u183 u184 u185 u186 u187 u188 u189 u190 u191 u192 u193 u194 u195 u196 u197 u198 u199 u200 u201 u202 u203 u204 u205 u206 u207 u208 u209 : Value}
    (hQ : Aside (∀ (v13 v14 v15 v16 v17 v18 v19 v66 v67 v68 v69 v70 v71 v72 v73 v74 v75 v76 v77 v78 v79 v80 v81 v82 v83 v84 v85 v86 v87 v88 v89 v90 v91 v92 v93 v94 v95 v96 v97 v98 v99 v100 v101 v102 v103 v104 v105 v106 v107 v108 v109 v110 v111 v112 v113 v114 v115 v116 v117 v118 v119 v120 v121 v122 v123 v124 v125 v126 v127 v128 v129 v130 v131 v132 v133 v134 v135 v136 v137 v138 v139 v140 v141 v142 v143 v144 v145 v146 v147 v148 v149 v150 v151 v152 v153 v154 v155 v156 v157 v158 v159 v160 v161 v162 v163 v164 v165 v166 v167 v168 v169 v170 v171 v172 v173 v174 v175 v176 v177 v178 : Value) (wx : World) (f : Int) (ns' : List Int) (B' : List (List Int)) (D' R' : Nat → Prop) (a1 : Option Addr) (c1 : Nat) (a2 : Option Addr) (c2 : Nat), QB W X Y dd id old now st b ns' B' D' R' ns' B' a1 c1 a2 c2 wx → B'.length ≤ B.length + 1 → ns'.length ≤ ns.length + 1 → Q .normal { tmps := #[u0, u1, u2, .pointer (some ⟨b, 0, none⟩), .pointer (some ⟨X, 0, none⟩), u5, .pointer (some ⟨Y, 0, none⟩), u7, u8, u9, u10, .int .i64 f, .int .i64 f, v13, v14, v15, v16, v17, v18, v19, u20, u21, u22, u23, u24, u25, u26, u27, u28, u29, u30, u31, u32, u33, u34, u35, u36, u37, u38, u39, u40, u41, u42, u43, u44, u45, u46, u47, u48, u49, u50, u51, u52, u53, u54, u55, u56, u57, u58, u59, u60, u61, u62, u63, u64, .int .u8 q, v66, v67, v68, v69, v70, v71, v72, v73, v74, v75, v76, v77, v78, v79, v80, v81, v82, v83, v84, v85, v86, v87, v88, v89, v90, v91, v92, v93, v94, v95, v96, v97, v98, v99, v100, v101, v102, v103, v104, v105, v106, v107, v108, v109, v110, v111, v112, v113, v114, v115, v116, v117, v118, v119, v120, v121, v122, v123, v124, v125, v126, v127, v128, v129, v130, v131, v132, v133, v134, v135, v136, v137, v138, v139, v140, v141, v142, v143, v144, v145, v146, v147, v148, v149, v150, v151, v152, v153, v154, v155, v156, v157, v158, v159, v160, v161, v162, v163, v164, v165, v166, v167, v168, v169, v170, v171, v172, v173, v174, v175, v176, v177, v178, u179, u180, u181, u182, u183, u184, u185, u186, u187, u188, u189, u190, u191, u192, u193, u194, u195, u196, u197, u198, u199, u200, u201, u202, u203, u204, u205, u206, u207, u208, u209], defers := [] } wx)) :
    code.wp Tryz.prog Q { tmps := #[u0, u1, u2, .pointer (some ⟨b, 0, none⟩), .pointer (some ⟨X, 0, none⟩), u5, .pointer (some ⟨Y, 0, none⟩), u7, u8, u9, u10, .int .i64 0, .int .i64 0, u13, u14, u15, u16, u17, u18, u19, u20, u21, u22, u23, u24, u25, u26, u27, u28, u29, u30, u31, u32, u33, u34, u35, u36, u37, u38, u39, u40, u41, u42, u43, u44, u45, u46, u47, u48, u49, u50, u51, u52, u53, u54, u55, u56, u57, u58, u59, u60, u61, u62, u63, u64, .int .u8 q, u66, u67, u68, u69, u70, u71, u72, u73, u74, u75, u76, u77, u78, u79, u80, u81, u82, u83, u84, u85, u86, u87, u88, u89, u90, u91, u92, u93, u94, u95, u96, u97, u98, u99, u100, u101, u102, u103, u104, u105, u106, u107, u108, u109, u110, u111, u112, u113, u114, u115, u116, u117, u118, u119, u120, u121, u122, u123, u124, u125, u126, u127, u128, u129, u130, u131, u132, u133, u134, u135, u136, u137, u138, u139, u140, u141, u142, u143, u144, u145, u146, u147, u148, u149, u150, u151, u152, u153, u154, u155, u156, u157, u158, u159, u160, u161, u162, u163, u164, u165, u166, u167, u168, u169, u170, u171, u172, u173, u174, u175, u176, u177, u178, u179, u180, u181, u182, u183, u184, u185, u186, u187, u188, u189, u190, u191, u192, u193, u194, u195, u196, u197, u198, u199, u200, u201, u202, u203, u204, u205, u206, u207, u208, u209], defers := [] } w := by
  obtain rfl := Option.some.inj hcode
  clear hcode
  dsimp only at hQ ⊢
  subst hq3
  have hnd := aside_of (show ns.Nodup from by obtain ⟨⟨m, L, es, h1⟩, _⟩ := hq.bag; exact h1.nodup)
  have hp := punlist hq.bag (by omega) hid
  obtain ⟨n2, hB2⟩ : ∃ n2, n2 = if (rfind id B).isSome then woL ns id else ns := ⟨_, rfl⟩
  have L1 := aside_of (Nat.le_succ B.length)
  have L2 := aside_of (show n2.length ≤ ns.length + 1 from by rw [hB2]; exact by split; exact Nat.le_succ_of_le List.length_erase_le; exact Nat.le_succ _)
  obtain ⟨f, hf⟩ : ∃ f, f = knownE B id := ⟨_, rfl⟩
  have HFF := aside_of (And.intro hB2 hf)
  rw [← hB2, ← hf] at hp
  clear hf hB2
  obtain ⟨⟨q0, q1, f0, f1⟩, y0, y1, y2, y3, y4⟩ := (hq).cells
  have HF := aside_of hq
  go_upto_region 44 with (go_at_call 39; with_reducible refine hp.mono ?_; clear hp; rintro e w1 ⟨he, ho⟩; subst he)
  obtain ⟨D', R', F1⟩ := HF.out.acts ho
  have hr := dunlist F1.l F1.n hnd.out (by omega) (by omega) (id := id)
  rw [← HFF.out.1, ← HFF.out.2] at hr
  clear q0 q1 f0 f1 y0 y1 y2 y3 y4
  obtain ⟨⟨q0, q1, f0, f1⟩, y0, y1, y2, y3, y4⟩ := (F1).cells
  have H1 := aside_of F1
  clear F1 ho hq HF
  unfold DOut at hr
  go_wp2_with (go_at_call 40; with_reducible refine hr.mono ?_; clear hr; rintro e w2 ⟨u1, u2, he, hd⟩; obtain ⟨a1', c1', e1⟩ := hd.s1; obtain ⟨a2', c2', e2⟩ := hd.s2; subst e1; subst e2; subst he; have HD := aside_of hd; clear q0 q1 f0 f1 y0 y1 y2 y3 y4; obtain ⟨⟨q0, q1, f0, f1⟩, y0, y1, y2, y3, y4⟩ := (H1.out.below hd.low).cells; clear hd)
  have F3 := H1.out.store HD.out
  unfold putX at F3
  have HZ := aside_of F3
  exact hQ.out _ _ _ _ _ _ _ _ _ _ _ _ _ _ _ _ _ _ _ _ _ _ _ _ _ _ _ _ _ _ _ _ _ _ _ _ _ _ _ _ _ _ _ _ _ _ _ _ _ _ _ _ _ _ _ _ _ _ _ _ _ _ _ _ _ _ _ _ _ _ _ _ _ _ _ _ _ _ _ _ _ _ _ _ _ _ _ _ _ _ _ _ _ _ _ _ _ _ _ _ _ _ _ _ _ _ _ _ _ _ _ _ _ _ _ _ _ _ _ _ _ _ _ _ _ _ _ _ _ _ HZ.out L1.out L2.out

set_option maxHeartbeats 4000000 in
set_option maxRecDepth 1000000 in
theorem arm_swap (code : Code) (hcode : (Tryz.f5.body.bind (Code.blk 4)) = some code) (Q : Exit → Act → World → Prop)
    (hq : QB W X Y dd id old now st b ns B D R ns B a1 c1 a2 c2 w) (hlB : B.length ≤ 500) (hln : ns.length ≤ 500) (hid : (Lit.int .u64 id).wf = true) (hold : (Lit.int .u64 old).wf = true) (hnow : (Lit.int .u64 now).wf = true) (hst : (Lit.int .i64 st).wf = true) (hd0 : 0 ≤ dd) (hdq : dd % 8 = q) (hq3 : q = 2 ∨ q = 3)
    {u0 u1 u2 u5 u7 u8 u9 u10 u13 u14 u15 u16 u17 u18 u19 u20 u21 u22 u23 u24 u25 u26 u27 u28 u29 u30 u31 u32 u33 u34 u35 u36 u37 u38 u39 u40 u41 u42 u43 u44 u45 u46 u47 u48 u49 u50 u51 u52 u53 u54 u55 u56 u57 u58 u59 u60 u61 u62 u63 u64 u66 u67 u68 u69 u70 u71 u72 u73 u74 u75 u76 u77 u78 u79 u80 u81 u82 u83 u84 u85 u86 u87 u88 u89 u90 u91 u92 u93 u94 u95 u96 u97 u98 u99 u100 u101 u102 u103 u104 u105 u106 u107 u108 u109 u110 u111 u112 u113 u114 u115 u116 u117 u118 u119 u120 u121 u122 u123 u124 u125 u126 u127 u128 u129 u130 u131 u132 u133 u134 u135 u136 u137 u138 u139 u140 u141 u142 u143 u144 u145 u146 u147 u148 u149 u150 u151 u152 u153 u154 u155 u156 u157 u158 u159 u160 u161 u162 u163 u164 u165 u166 u167 u168 u169 u170 u171 u172 u173 u174 u175 u176 u177 u178 u179 u180 u181 u182 u183 u184 u185 u186 u187 u188 u189 u190 u191 u192 u193 u194 u195 u196 u197 u198 u199 u200 u201 u202 u203 u204 u205 u206 u207 u208 u209 : Value}
    (hQ : Aside (∀ (v13 v14 v15 v16 v17 v18 v19 v66 v67 v68 v69 v70 v71 v72 v73 v74 v75 v76 v77 v78 v79 v80 v81 v82 v83 v84 v85 v86 v87 v88 v89 v90 v91 v92 v93 v94 v95 v96 v97 v98 v99 v100 v101 v102 v103 v104 v105 v106 v107 v108 v109 v110 v111 v112 v113 v114 v115 v116 v117 v118 v119 v120 v121 v122 v123 v124 v125 v126 v127 v128 v129 v130 v131 v132 v133 v134 v135 v136 v137 v138 v139 v140 v141 v142 v143 v144 v145 v146 v147 v148 v149 v150 v151 v152 v153 v154 v155 v156 v157 v158 v159 v160 v161 v162 v163 v164 v165 v166 v167 v168 v169 v170 v171 v172 v173 v174 v175 v176 v177 v178 : Value) (wx : World) (f : Int) (ns' : List Int) (B' : List (List Int)) (D' R' : Nat → Prop) (a1 : Option Addr) (c1 : Nat) (a2 : Option Addr) (c2 : Nat), QB W X Y dd id old now st b ns' B' D' R' ns' B' a1 c1 a2 c2 wx → B'.length ≤ B.length + 1 → ns'.length ≤ ns.length + 1 → Q .normal { tmps := #[u0, u1, u2, .pointer (some ⟨b, 0, none⟩), .pointer (some ⟨X, 0, none⟩), u5, .pointer (some ⟨Y, 0, none⟩), u7, u8, u9, u10, .int .i64 f, .int .i64 f, v13, v14, v15, v16, v17, v18, v19, u20, u21, u22, u23, u24, u25, u26, u27, u28, u29, u30, u31, u32, u33, u34, u35, u36, u37, u38, u39, u40, u41, u42, u43, u44, u45, u46, u47, u48, u49, u50, u51, u52, u53, u54, u55, u56, u57, u58, u59, u60, u61, u62, u63, u64, .int .u8 q, v66, v67, v68, v69, v70, v71, v72, v73, v74, v75, v76, v77, v78, v79, v80, v81, v82, v83, v84, v85, v86, v87, v88, v89, v90, v91, v92, v93, v94, v95, v96, v97, v98, v99, v100, v101, v102, v103, v104, v105, v106, v107, v108, v109, v110, v111, v112, v113, v114, v115, v116, v117, v118, v119, v120, v121, v122, v123, v124, v125, v126, v127, v128, v129, v130, v131, v132, v133, v134, v135, v136, v137, v138, v139, v140, v141, v142, v143, v144, v145, v146, v147, v148, v149, v150, v151, v152, v153, v154, v155, v156, v157, v158, v159, v160, v161, v162, v163, v164, v165, v166, v167, v168, v169, v170, v171, v172, v173, v174, v175, v176, v177, v178, u179, u180, u181, u182, u183, u184, u185, u186, u187, u188, u189, u190, u191, u192, u193, u194, u195, u196, u197, u198, u199, u200, u201, u202, u203, u204, u205, u206, u207, u208, u209], defers := [] } wx)) :
    code.wp Tryz.prog Q { tmps := #[u0, u1, u2, .pointer (some ⟨b, 0, none⟩), .pointer (some ⟨X, 0, none⟩), u5, .pointer (some ⟨Y, 0, none⟩), u7, u8, u9, u10, .int .i64 0, .int .i64 0, u13, u14, u15, u16, u17, u18, u19, u20, u21, u22, u23, u24, u25, u26, u27, u28, u29, u30, u31, u32, u33, u34, u35, u36, u37, u38, u39, u40, u41, u42, u43, u44, u45, u46, u47, u48, u49, u50, u51, u52, u53, u54, u55, u56, u57, u58, u59, u60, u61, u62, u63, u64, .int .u8 q, u66, u67, u68, u69, u70, u71, u72, u73, u74, u75, u76, u77, u78, u79, u80, u81, u82, u83, u84, u85, u86, u87, u88, u89, u90, u91, u92, u93, u94, u95, u96, u97, u98, u99, u100, u101, u102, u103, u104, u105, u106, u107, u108, u109, u110, u111, u112, u113, u114, u115, u116, u117, u118, u119, u120, u121, u122, u123, u124, u125, u126, u127, u128, u129, u130, u131, u132, u133, u134, u135, u136, u137, u138, u139, u140, u141, u142, u143, u144, u145, u146, u147, u148, u149, u150, u151, u152, u153, u154, u155, u156, u157, u158, u159, u160, u161, u162, u163, u164, u165, u166, u167, u168, u169, u170, u171, u172, u173, u174, u175, u176, u177, u178, u179, u180, u181, u182, u183, u184, u185, u186, u187, u188, u189, u190, u191, u192, u193, u194, u195, u196, u197, u198, u199, u200, u201, u202, u203, u204, u205, u206, u207, u208, u209], defers := [] } w := by
  obtain rfl := Option.some.inj hcode
  clear hcode
  dsimp only at hQ ⊢
  rcases hq3 with rfl | rfl
  all_goals
    have hld := pload hq.bag id
    have hxw : (Lit.int .u64 (wordR B id)).wf = true := hq.bag.word_wf id
    obtain ⟨x, hx⟩ : ∃ x, x = wordR B id := ⟨_, rfl⟩
    rw [← hx] at hxw
    have hp := fun (v : World) (D R : Nat → Prop) (hv : PBg v b ns B D R) => pswap hv hid hxw hst hnow
    obtain ⟨B2, hB2⟩ : ∃ B2, B2 = swapB B id x st now := ⟨_, rfl⟩
    obtain ⟨z, hz⟩ : ∃ z, z = swapW B id x st := ⟨_, rfl⟩
    obtain ⟨ok, hok⟩ : ∃ ok, ok = swapOk B id x st := ⟨_, rfl⟩
    have L1 := aside_of (show B2.length ≤ B.length + 1 from by rw [hB2]; exact Nat.le_succ_of_le (swapB_length _ _ _ _ _))
    rw [← hB2, ← hz, ← hok] at hp
    have HFF := aside_of (And.intro hB2 (And.intro hz hok))
    clear hB2 hz hok

    rw [← hx] at hld; have HX := aside_of hx; clear hx
    generalize (rfind id B).isSome = io at hld
    obtain ⟨⟨q0, q1, f0, f1⟩, y0, y1, y2, y3, y4⟩ := (hq).cells
    have HF := aside_of hq
    clear hq
    go_upto_region 29 with (go_at_call 32; with_reducible refine hld.mono ?_; clear hld; rintro e w0 ⟨he, b0⟩; subst he)
    have G0 := HF.out.below b0
    clear q0 q1 f0 f1 y0 y1 y2 y3 y4
    obtain ⟨⟨q0, q1, f0, f1⟩, y0, y1, y2, y3, y4⟩ := (G0).cells
    have hp2 := hp _ _ _ G0.bag
    have HG := aside_of G0
    clear b0 G0 hp
    go_upto_region 32 with (go_at_call 33; with_reducible refine hp2.mono ?_; clear hp2; rintro e w1 ⟨he, ho⟩; subst he)
    obtain ⟨D', R', F1⟩ := HG.out.acts ho
    have hr := dswap F1.l F1.n (by omega) (id := id) (st := st) hxw hnow
    rw [← HFF.out.1, ← HFF.out.2.1, ← HFF.out.2.2] at hr
    clear q0 q1 f0 f1 y0 y1 y2 y3 y4
    obtain ⟨⟨q0, q1, f0, f1⟩, y0, y1, y2, y3, y4⟩ := (F1).cells
    have H1 := aside_of F1
    clear F1 ho
    unfold DOut3 at hr
    go_upto_region 33 with (go_at_call 35; with_reducible refine hr.mono ?_; clear hr; rintro e w2 ⟨u1, u2, he, hd⟩; obtain ⟨a1', c1', e1⟩ := hd.s1; obtain ⟨a2', c2', e2⟩ := hd.s2; subst e1; subst e2; subst he)
    have HD := aside_of (hd.more (b_below_alloc w2 (.cells #[.slice a1' B2.length c1', .slice a2' ns.length c2'] 61)))
    clear q0 q1 f0 f1 y0 y1 y2 y3 y4
    obtain ⟨⟨q0, q1, f0, f1⟩, y0, y1, y2, y3, y4⟩ := (H1.out.below HD.out.low).cells
    obtain ⟨g0, g1, _, _⟩ := bag2 (b_heap_new w2 (.cells #[.slice a1' B2.length c1', .slice a2' ns.length c2'] 61))
    clear hd
    have F3 := H1.out.store HD.out
    unfold putX at F3
    have HZ := aside_of F3
    clear F3
    generalize w2.alloc (.cells #[.slice a1' B2.length c1', .slice a2' ns.length c2'] 61) = w3 at *
    go_wp2
    exact hQ.out _ _ _ _ _ _ _ _ _ _ _ _ _ _ _ _ _ _ _ _ _ _ _ _ _ _ _ _ _ _ _ _ _ _ _ _ _ _ _ _ _ _ _ _ _ _ _ _ _ _ _ _ _ _ _ _ _ _ _ _ _ _ _ _ _ _ _ _ _ _ _ _ _ _ _ _ _ _ _ _ _ _ _ _ _ _ _ _ _ _ _ _ _ _ _ _ _ _ _ _ _ _ _ _ _ _ _ _ _ _ _ _ _ _ _ _ _ _ _ _ _ _ _ _ _ _ _ _ _ _ HZ.out L1.out (Nat.le_succ _)

set_option maxHeartbeats 4000000 in
set_option maxRecDepth 1000000 in
theorem arm_swap4 (code : Code) (hcode : (Tryz.f5.body.bind (Code.blk 4)) = some code) (Q : Exit → Act → World → Prop)
    (hq : QB W X Y dd id old now st b ns B D R ns B a1 c1 a2 c2 w) (hlB : B.length ≤ 500) (hln : ns.length ≤ 500) (hid : (Lit.int .u64 id).wf = true) (hold : (Lit.int .u64 old).wf = true) (hnow : (Lit.int .u64 now).wf = true) (hst : (Lit.int .i64 st).wf = true) (hd0 : 0 ≤ dd) (hdq : dd % 8 = q) (hq3 : q = 4)
    {u0 u1 u2 u5 u7 u8 u9 u10 u13 u14 u15 u16 u17 u18 u19 u20 u21 u22 u23 u24 u25 u26 u27 u28 u29 u30 u31 u32 u33 u34 u35 u36 u37 u38 u39 u40 u41 u42 u43 u44 u45 u46 u47 u48 u49 u50 u51 u52 u53 u54 u55 u56 u57 u58 u59 u60 u61 u62 u63 u64 u66 u67 u68 u69 u70 u71 u72 u73 u74 u75 u76 u77 u78 u79 u80 u81 u82 u83 u84 u85 u86 u87 u88 u89 u90 u91 u92 u93 u94 u95 u96 u97 u98 u99 u100 u101 u102 u103 u104 u105 u106 u107 u108 u109 u110 u111 u112 u113 u114 u115 u116 u117 u118 u119 u120 u121 u122 u123 u124 u125 u126 u127 u128 u129 u130 u131 u132 u133 u134 u135 u136 u137 u138 u139 u140 u141 u142 u143 u144 u145 u146 u147 u148 u149 u150 u151 u152 u153 u154 u155 u156 u157 u158 u159 u160 u161 u162 u163 u164 u165 u166 u167 u168 u169 u170 u171 u172 u173 u174 u175 u176 u177 u178 u179 u180 u181 u182 u183 u184 u185 u186 u187 u188 u189 u190 u191 u192 u193 u194 u195 u196 u197 u198 u199 u200 u201 u202 u203 u204 u205 u206 u207 u208 u209 : Value}
    (hQ : Aside (∀ (v13 v14 v15 v16 v17 v18 v19 v66 v67 v68 v69 v70 v71 v72 v73 v74 v75 v76 v77 v78 v79 v80 v81 v82 v83 v84 v85 v86 v87 v88 v89 v90 v91 v92 v93 v94 v95 v96 v97 v98 v99 v100 v101 v102 v103 v104 v105 v106 v107 v108 v109 v110 v111 v112 v113 v114 v115 v116 v117 v118 v119 v120 v121 v122 v123 v124 v125 v126 v127 v128 v129 v130 v131 v132 v133 v134 v135 v136 v137 v138 v139 v140 v141 v142 v143 v144 v145 v146 v147 v148 v149 v150 v151 v152 v153 v154 v155 v156 v157 v158 v159 v160 v161 v162 v163 v164 v165 v166 v167 v168 v169 v170 v171 v172 v173 v174 v175 v176 v177 v178 : Value) (wx : World) (f : Int) (ns' : List Int) (B' : List (List Int)) (D' R' : Nat → Prop) (a1 : Option Addr) (c1 : Nat) (a2 : Option Addr) (c2 : Nat), QB W X Y dd id old now st b ns' B' D' R' ns' B' a1 c1 a2 c2 wx → B'.length ≤ B.length + 1 → ns'.length ≤ ns.length + 1 → Q .normal { tmps := #[u0, u1, u2, .pointer (some ⟨b, 0, none⟩), .pointer (some ⟨X, 0, none⟩), u5, .pointer (some ⟨Y, 0, none⟩), u7, u8, u9, u10, .int .i64 f, .int .i64 f, v13, v14, v15, v16, v17, v18, v19, u20, u21, u22, u23, u24, u25, u26, u27, u28, u29, u30, u31, u32, u33, u34, u35, u36, u37, u38, u39, u40, u41, u42, u43, u44, u45, u46, u47, u48, u49, u50, u51, u52, u53, u54, u55, u56, u57, u58, u59, u60, u61, u62, u63, u64, .int .u8 q, v66, v67, v68, v69, v70, v71, v72, v73, v74, v75, v76, v77, v78, v79, v80, v81, v82, v83, v84, v85, v86, v87, v88, v89, v90, v91, v92, v93, v94, v95, v96, v97, v98, v99, v100, v101, v102, v103, v104, v105, v106, v107, v108, v109, v110, v111, v112, v113, v114, v115, v116, v117, v118, v119, v120, v121, v122, v123, v124, v125, v126, v127, v128, v129, v130, v131, v132, v133, v134, v135, v136, v137, v138, v139, v140, v141, v142, v143, v144, v145, v146, v147, v148, v149, v150, v151, v152, v153, v154, v155, v156, v157, v158, v159, v160, v161, v162, v163, v164, v165, v166, v167, v168, v169, v170, v171, v172, v173, v174, v175, v176, v177, v178, u179, u180, u181, u182, u183, u184, u185, u186, u187, u188, u189, u190, u191, u192, u193, u194, u195, u196, u197, u198, u199, u200, u201, u202, u203, u204, u205, u206, u207, u208, u209], defers := [] } wx)) :
    code.wp Tryz.prog Q { tmps := #[u0, u1, u2, .pointer (some ⟨b, 0, none⟩), .pointer (some ⟨X, 0, none⟩), u5, .pointer (some ⟨Y, 0, none⟩), u7, u8, u9, u10, .int .i64 0, .int .i64 0, u13, u14, u15, u16, u17, u18, u19, u20, u21, u22, u23, u24, u25, u26, u27, u28, u29, u30, u31, u32, u33, u34, u35, u36, u37, u38, u39, u40, u41, u42, u43, u44, u45, u46, u47, u48, u49, u50, u51, u52, u53, u54, u55, u56, u57, u58, u59, u60, u61, u62, u63, u64, .int .u8 q, u66, u67, u68, u69, u70, u71, u72, u73, u74, u75, u76, u77, u78, u79, u80, u81, u82, u83, u84, u85, u86, u87, u88, u89, u90, u91, u92, u93, u94, u95, u96, u97, u98, u99, u100, u101, u102, u103, u104, u105, u106, u107, u108, u109, u110, u111, u112, u113, u114, u115, u116, u117, u118, u119, u120, u121, u122, u123, u124, u125, u126, u127, u128, u129, u130, u131, u132, u133, u134, u135, u136, u137, u138, u139, u140, u141, u142, u143, u144, u145, u146, u147, u148, u149, u150, u151, u152, u153, u154, u155, u156, u157, u158, u159, u160, u161, u162, u163, u164, u165, u166, u167, u168, u169, u170, u171, u172, u173, u174, u175, u176, u177, u178, u179, u180, u181, u182, u183, u184, u185, u186, u187, u188, u189, u190, u191, u192, u193, u194, u195, u196, u197, u198, u199, u200, u201, u202, u203, u204, u205, u206, u207, u208, u209], defers := [] } w := by
  obtain rfl := Option.some.inj hcode
  clear hcode
  dsimp only at hQ ⊢
  subst hq3
  have hld := pload hq.bag id
  have hxw : (Lit.int .u64 (old)).wf = true := hold
  obtain ⟨x, hx⟩ : ∃ x, x = old := ⟨_, rfl⟩
  rw [← hx] at hxw
  have hp := fun (v : World) (D R : Nat → Prop) (hv : PBg v b ns B D R) => pswap hv hid hxw hst hnow
  obtain ⟨B2, hB2⟩ : ∃ B2, B2 = swapB B id x st now := ⟨_, rfl⟩
  obtain ⟨z, hz⟩ : ∃ z, z = swapW B id x st := ⟨_, rfl⟩
  obtain ⟨ok, hok⟩ : ∃ ok, ok = swapOk B id x st := ⟨_, rfl⟩
  have L1 := aside_of (show B2.length ≤ B.length + 1 from by rw [hB2]; exact Nat.le_succ_of_le (swapB_length _ _ _ _ _))
  rw [← hB2, ← hz, ← hok] at hp
  have HFF := aside_of (And.intro hB2 (And.intro hz hok))
  clear hB2 hz hok
  subst hx

  generalize (rfind id B).isSome = io at hld
  obtain ⟨⟨q0, q1, f0, f1⟩, y0, y1, y2, y3, y4⟩ := (hq).cells
  have HF := aside_of hq
  clear hq
  go_upto_region 29 with (go_at_call 32; with_reducible refine hld.mono ?_; clear hld; rintro e w0 ⟨he, b0⟩; subst he)
  have G0 := HF.out.below b0
  clear q0 q1 f0 f1 y0 y1 y2 y3 y4
  obtain ⟨⟨q0, q1, f0, f1⟩, y0, y1, y2, y3, y4⟩ := (G0).cells
  have hp2 := hp _ _ _ G0.bag
  have HG := aside_of G0
  clear b0 G0 hp
  go_upto_region 32 with (go_at_call 33; with_reducible refine hp2.mono ?_; clear hp2; rintro e w1 ⟨he, ho⟩; subst he)
  obtain ⟨D', R', F1⟩ := HG.out.acts ho
  have hr := dswap F1.l F1.n (by omega) (id := id) (st := st) hxw hnow
  rw [← HFF.out.1, ← HFF.out.2.1, ← HFF.out.2.2] at hr
  clear q0 q1 f0 f1 y0 y1 y2 y3 y4
  obtain ⟨⟨q0, q1, f0, f1⟩, y0, y1, y2, y3, y4⟩ := (F1).cells
  have H1 := aside_of F1
  clear F1 ho
  unfold DOut3 at hr
  go_upto_region 33 with (go_at_call 35; with_reducible refine hr.mono ?_; clear hr; rintro e w2 ⟨u1, u2, he, hd⟩; obtain ⟨a1', c1', e1⟩ := hd.s1; obtain ⟨a2', c2', e2⟩ := hd.s2; subst e1; subst e2; subst he)
  have HD := aside_of (hd.more (b_below_alloc w2 (.cells #[.slice a1' B2.length c1', .slice a2' ns.length c2'] 61)))
  clear q0 q1 f0 f1 y0 y1 y2 y3 y4
  obtain ⟨⟨q0, q1, f0, f1⟩, y0, y1, y2, y3, y4⟩ := (H1.out.below HD.out.low).cells
  obtain ⟨g0, g1, _, _⟩ := bag2 (b_heap_new w2 (.cells #[.slice a1' B2.length c1', .slice a2' ns.length c2'] 61))
  clear hd
  have F3 := H1.out.store HD.out
  unfold putX at F3
  have HZ := aside_of F3
  clear F3
  generalize w2.alloc (.cells #[.slice a1' B2.length c1', .slice a2' ns.length c2'] 61) = w3 at *
  go_wp2
  exact hQ.out _ _ _ _ _ _ _ _ _ _ _ _ _ _ _ _ _ _ _ _ _ _ _ _ _ _ _ _ _ _ _ _ _ _ _ _ _ _ _ _ _ _ _ _ _ _ _ _ _ _ _ _ _ _ _ _ _ _ _ _ _ _ _ _ _ _ _ _ _ _ _ _ _ _ _ _ _ _ _ _ _ _ _ _ _ _ _ _ _ _ _ _ _ _ _ _ _ _ _ _ _ _ _ _ _ _ _ _ _ _ _ _ _ _ _ _ _ _ _ _ _ _ _ _ _ _ _ _ _ _ HZ.out L1.out (Nat.le_succ _)

end Go.Proofs.YtbdnlaepeladbaaGreatDoor
