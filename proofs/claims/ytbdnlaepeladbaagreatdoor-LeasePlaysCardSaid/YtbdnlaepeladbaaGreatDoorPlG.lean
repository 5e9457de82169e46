/- The law's walk, at whatever acts. Conditions: how the argument lies in memory; that the example is found true. -/
import Derived.Test.YtbdnlaepeladbaaGreatDoorPlF
import Derived.Test.YtbdnlaepeladbaaGreatDoorBkE
import Derived.Test.YtbdnlaepeladbaaGreatDoorMo
namespace Go.Proofs.YtbdnlaepeladbaaGreatDoor
open Go.ChangeShapes Go.WideShapes Go.ChangeAt Go.RowKit Go.Eng

variable {W w : World} {b ml mm wl mt : Nat} {B : BK} {d : RK} {aL aM aT : Option Addr} {cL cM cT : Nat} {X Y k : Nat} {lk dd id t nw q : Int}

set_option maxHeartbeats 4000000 in
set_option maxRecDepth 1000000 in
theorem switch_all (code : Code) (hcode : (Tryz.f4.body.bind (Code.blk 2)) = some code) (Q : Exit → Act → World → Prop)
    (hq : QL W X Y k lk dd id t nw b ml mm wl mt B d aL aM aT cL cM cT w) (hrel : Rel B d k) (hk : k ≤ 200) (hq3 : 0 ≤ q ∧ q < 8) (hkw : KeysWh) (hlku : U64 lk) (hnw : U64 nw) (hid : (Lit.int .u64 id).wf = true)
    {u0 u1 u2 u3 u4 u7 u9 u12 u13 u14 u15 u16 u17 u18 u19 u20 u21 u22 u23 u24 u25 u26 u27 u28 u29 u30 u31 u32 u33 u34 u35 u36 u37 u38 u39 u40 u41 u42 u43 u44 u45 u46 u47 u48 u50 u51 u52 u53 u54 u55 u56 u57 u58 u59 u60 u61 u62 u63 u64 u65 u66 u67 u68 u69 u70 u71 u72 u73 u74 u75 u76 u77 u78 u79 u80 u81 u82 u83 u84 u85 u86 u87 u88 u89 u90 u91 u92 u93 u94 u95 u96 u97 u98 u99 u100 u101 u102 u103 u104 u105 u106 u107 u108 u109 u110 u111 u112 u113 u114 u115 u116 u117 u118 u119 u120 u121 u122 u123 u124 u125 u126 u127 u128 u129 u130 u131 u132 u133 u134 u135 u136 u137 u138 u139 u140 u141 u142 u143 u144 : Value}
    (hQ : Aside (∀ (v12 v13 v50 v51 v52 v53 v54 v55 v56 v57 v58 v59 v60 v61 v62 v63 v64 v65 v66 v67 v68 v69 v70 v71 v72 v73 v74 v75 v76 v77 v78 v79 v80 v81 v82 v83 v84 v85 v86 v87 v88 v89 v90 v91 v92 v93 v94 v95 v96 v97 v98 v99 v100 v101 v102 v103 v104 v105 v106 v107 v108 v109 v110 v111 v112 v113 v114 v115 v116 v117 v118 v119 v120 v121 v122 v123 v124 v125 v126 v127 v128 v129 v130 : Value) (wx : World) (f : Int) (B2 : BK) (d2 : RK) (aL aM aT : Option Addr) (cL cM cT : Nat), QL W X Y k lk dd id t nw b ml mm wl mt B2 d2 aL aM aT cL cM cT wx → Rel B2 d2 (k + 1) → Q .normal { tmps := #[u0, u1, u2, u3, u4, .pointer (some ⟨b, 0, none⟩), .pointer (some ⟨X, 0, none⟩), u7, .pointer (some ⟨Y, 0, none⟩), u9, .int .i64 f, .int .i64 f, v12, v13, u14, u15, u16, u17, u18, u19, u20, u21, u22, u23, u24, u25, u26, u27, u28, u29, u30, u31, u32, u33, u34, u35, u36, u37, u38, u39, u40, u41, u42, u43, u44, u45, u46, u47, u48, .int .u8 q, v50, v51, v52, v53, v54, v55, v56, v57, v58, v59, v60, v61, v62, v63, v64, v65, v66, v67, v68, v69, v70, v71, v72, v73, v74, v75, v76, v77, v78, v79, v80, v81, v82, v83, v84, v85, v86, v87, v88, v89, v90, v91, v92, v93, v94, v95, v96, v97, v98, v99, v100, v101, v102, v103, v104, v105, v106, v107, v108, v109, v110, v111, v112, v113, v114, v115, v116, v117, v118, v119, v120, v121, v122, v123, v124, v125, v126, v127, v128, v129, v130, u131, u132, u133, u134, u135, u136, u137, u138, u139, u140, u141, u142, u143, u144], defers := [] } wx)) :
    code.wp Tryz.prog Q { tmps := #[u0, u1, u2, u3, u4, .pointer (some ⟨b, 0, none⟩), .pointer (some ⟨X, 0, none⟩), u7, .pointer (some ⟨Y, 0, none⟩), u9, .int .i64 0, .int .i64 0, u12, u13, u14, u15, u16, u17, u18, u19, u20, u21, u22, u23, u24, u25, u26, u27, u28, u29, u30, u31, u32, u33, u34, u35, u36, u37, u38, u39, u40, u41, u42, u43, u44, u45, u46, u47, u48, .int .u8 q, u50, u51, u52, u53, u54, u55, u56, u57, u58, u59, u60, u61, u62, u63, u64, u65, u66, u67, u68, u69, u70, u71, u72, u73, u74, u75, u76, u77, u78, u79, u80, u81, u82, u83, u84, u85, u86, u87, u88, u89, u90, u91, u92, u93, u94, u95, u96, u97, u98, u99, u100, u101, u102, u103, u104, u105, u106, u107, u108, u109, u110, u111, u112, u113, u114, u115, u116, u117, u118, u119, u120, u121, u122, u123, u124, u125, u126, u127, u128, u129, u130, u131, u132, u133, u134, u135, u136, u137, u138, u139, u140, u141, u142, u143, u144], defers := [] } w := by
  have hqq : (q = 3 ∨ q = 4) ∨ q = 5 ∨ q = 6 ∨ q = 7 ∨ (0 ≤ q ∧ q ≤ 2) := by omega
  rcases hqq with h | h | h | h | h
  · exact switch_end code hcode Q hq hrel hk h hQ
  · exact switch_mark code hcode Q hq hrel hk h hQ
  · exact switch_forget code hcode Q hq hrel hk h hQ
  · exact switch_leaks code hcode Q hq hrel hk h hkw hQ
  · exact switch_begin code hcode Q hq hrel hk h hlku hnw hid hQ


theorem begin_tm (B : BK) (id t now : Int) : (B.begin id t now).1.tm = B.tm ∨ ∃ x, (B.begin id t now).1.tm = aput id x B.tm := by
  unfold BK.begin
  split
  · exact .inl rfl
  · split
    · exact .inl rfl
    · split
      · exact .inl rfl
      · split
        · unfold BK.arm
          split
          · exact .inl rfl
          · exact .inr ⟨_, rfl⟩
        · exact .inl rfl

/-- The program's Leaks, behind a Begin. -/
theorem pleaks2 (hkw : KeysWh) {id : Int} (t now : Int) (h : BkAt w b ml mm wl mt (B.begin id t now).1) (hr : Rel B d k) (hk : k ≤ 900) (hid : (Lit.int .u64 id).wf = true) (nw : Int) :
    Calls Tryz.prog 13 #[.pointer (some ⟨b, 0, none⟩), .int .u64 nw] w fun e w' => ∃ v B2, e = .returned v ∧ BkAt w' b ml mm wl mt B2 ∧ Upto (fun j => j = ml ∨ j = mt) w w' := by
  have hl0 : B.tm.length ≤ 900 := by rw [hr.permT.length_eq]; exact Nat.le_trans (Nat.le_trans hr.tle hr.len) hk
  have hl : (B.begin id t now).1.tm.length ≤ 1000 := by
    rcases begin_tm B id t now with e | ⟨x, e⟩
    · rw [e]; omega
    · rw [e, length_aput]; split <;> omega
  have hwf : ∀ p ∈ (B.begin id t now).1.tm, (Lit.int .u64 p.1).wf = true := by
    intro p hp
    rcases begin_tm B id t now with e | ⟨x, e⟩
    · rw [e] at hp; exact hr.wfT p hp
    · have hg := Keys1.get h.wh.kt hp
      rw [e, aget_aput'] at hg
      split at hg
      · rename_i e2; rw [e2]; exact hid
      · exact hr.wfT _ (aget_mem hg)
  refine (leaks_calls h (due_calls h.wh (hkw w wl mt _ h.wh hwf hl))).mono ?_
  rintro e w' ⟨a, cap, D, h1, _, _, _, h5, h6⟩
  exact ⟨_, _, h1, h5, h6⟩

theorem PL.any {k' : Nat} (h : PL W X k lk b ml mm wl mt B d aL aM aT cL cM cT w) : PL W X k' lk b ml mm wl mt B d aL aM aT cL cM cT w := ⟨h.bk, h.box, h.rb, h.lkd, h.low, h.hX, h.hm⟩

/-- The book and its copy. -/
structure Two (W : World) (X Y k : Nat) (lk dd id t nw : Int) (b ml mm wl mt : Nat) (B : BK) (b' ml' mm' wl' mt' : Nat) (B' : BK) (d : RK) (aL aM aT : Option Addr) (cL cM cT : Nat) (v : World) : Prop where
  q : QL W X Y k lk dd id t nw b' ml' mm' wl' mt' B' d aL aM aT cL cM cT v
  o : BkAt v b ml mm wl mt B
  l1 : W.heap.size ≤ ml
  l2 : W.heap.size ≤ mt
  n1 : ml' ≠ ml ∧ ml' ≠ mt
  n2 : mm' ≠ ml ∧ mm' ≠ mt
  n3 : mt' ≠ ml ∧ mt' ≠ mt

variable {b' ml' mm' wl' mt' : Nat} {B' B2 : BK} {w' : World}
theorem Two.first (h : QL W X Y k lk dd id t nw b ml mm wl mt B d aL aM aT cL cM cT w) (hc : BkAt w' b' ml' mm' wl' mt' B ∧ Below w.heap.size w w' ∧ w.heap.size ≤ b' ∧ w.heap.size ≤ ml' ∧ w.heap.size ≤ mm' ∧ w.heap.size ≤ wl' ∧ w.heap.size ≤ mt') : Two W X Y k lk dd id t nw b ml mm wl mt B b' ml' mm' wl' mt' B d aL aM aT cL cM cT w' := by
  obtain ⟨hk, hb, h1, h2, h3, h4, h5⟩ := hc
  have e1 := h.p.bk.ls.lt
  have e2 := h.p.bk.wh.tt.lt
  have hq := h.below hb
  have hlow := h.p.low.size
  exact ⟨⟨⟨hk, hq.p.box, hq.p.rb, hq.p.lkd, hq.p.low, hq.p.hX, by omega, by omega, by omega⟩, hq.a, hq.ne⟩, hq.p.bk, h.p.hm.1, h.p.hm.2.2, ⟨by omega, by omega⟩, ⟨by omega, by omega⟩, ⟨by omega, by omega⟩⟩

theorem Two.step (h : Two W X Y k lk dd id t nw b ml mm wl mt B b' ml' mm' wl' mt' B' d aL aM aT cL cM cT w) (hk : BkAt w' b ml mm wl mt B2) (hu : Upto (fun j => j = ml ∨ j = mt) w w') : Two W X Y k lk dd id t nw b ml mm wl mt B2 b' ml' mm' wl' mt' B' d aL aM aT cL cM cT w' := by
  have hS : ∀ k, (k = ml ∨ k = mt) → ∃ es ck, w.heap[k]? = some (.map es ck) := by
    rintro k (e | e)
    · rw [e]; exact MapSt.obj h.o.ls
    · rw [e]; exact MapSt.obj h.o.wh.tt
  have hlow : ∀ j, (j = ml ∨ j = mt) → W.heap.size ≤ j := by
    rintro k (e | e)
    · rw [e]; exact h.l1
    · rw [e]; exact h.l2
  exact ⟨⟨h.q.p.other hu hS hlow (by have := h.n1; omega) (by have := h.n2; omega) (by have := h.n3; omega), h.q.a.upto hu hS, h.q.ne⟩, hk, h.l1, h.l2, h.n1, h.n2, h.n3⟩

end Go.Proofs.YtbdnlaepeladbaaGreatDoor

namespace Go.Proofs.YtbdnlaepeladbaaGreatDoor
open Go.ChangeShapes Go.WideShapes Go.ChangeAt Go.RowKit Go.Eng

theorem cell_belowB {v v' : World} {E j o : Nat} {x : Value} (h : Below E v v') (hj : j < E) (hc : v.cell? ⟨j, o, none⟩ = some x) : v'.cell? ⟨j, o, none⟩ = some x := by
  have := h.block j hj
  simp only [World.cell?] at hc ⊢
  rw [this]; exact hc

set_option maxRecDepth 1000000 in
theorem plays_long (W : World) (haw : Calls Tryz.prog 8 #[] W fun e w' => e = .returned (.bool true) ∧ Below W.heap.size W w') (p : Option Addr) (n cap : Nat) (lk : Int) (hn : 100 < n) :
    Calls Tryz.prog 4 #[.int .u64 lk, .slice p n cap] W fun e w' => e = .returned (.bool true) ∧ Below W.heap.size W w' := by
  have hi : (100 : Int) < (n : Int) := by omega
  go_enter Tryz.func4, Tryz.ntmps4
  go_wp2_with (go_at_call 8; with_reducible refine haw.mono ?_; rintro e w1 ⟨rfl, b1⟩)
  go_ret
  exact ⟨rfl, b1⟩

set_option maxHeartbeats 4000000 in
set_option maxRecDepth 1000000 in
theorem plays_some (hS : SortedLs) (hK : KeysWh) (W : World) (haw : Calls Tryz.prog 8 #[] W fun e w' => e = .returned (.bool true) ∧ Below W.heap.size W w') (a : Option Addr) (n cap : Nat) (hn : n ≤ 100) (lk : Int) (hlk : U64 lk)
    (F : Aside (∀ k, k < n → ∃ g o dd id t nw, a = some ⟨g, o, none⟩ ∧ g < W.heap.size ∧ ActQ W g (o + k * 4) dd id t nw ∧ (Lit.int .u64 id).wf = true ∧ U64 nw ∧ 0 ≤ dd ∧ dd < 256)) :
    Calls Tryz.prog 4 #[.int .u64 lk, .slice a n cap] W fun e w' => e = .returned (.bool true) ∧ Below W.heap.size W w' := by
  have HS := aside_of (And.intro hS (And.intro hK hlk))
  clear hS hK hlk
  have hi : ¬ (100 : Int) < (n : Int) := by omega
  go_enter Tryz.func4, Tryz.ntmps4
  go_upto_region 6 with (first
    | (go_at_call 8; with_reducible refine haw.mono ?_; clear haw; rintro e w1 ⟨he, b1⟩; subst he; have hnew := new_calls w1 lk)
    | (go_at_call 9; with_reducible refine hnew.mono ?_; clear hnew; rintro e w2 ⟨b, ml, mm, wl, mt, he, hb, hlow, b2⟩; subst he))
  have b12 := b1.trans (b2.mono b1.size)
  have bx := below_alloc w2 (.cells #[.int .u64 lk, .slice none 0 0, .slice none 0 0, .slice none 0 0] 45)
  have hx := RowB.new w2 lk (.slice none 0 0) (.slice none 0 0) (.slice none 0 0)
  have P0 : PL W w2.heap.size 0 lk b ml mm wl mt ⟨lk, [], [], []⟩ ⟨lk, [], [], []⟩ none none none 0 0 0 (w2.alloc (.cells #[.int .u64 lk, .slice none 0 0, .slice none 0 0, .slice none 0 0] 45)) :=
    ⟨hb.below bx, hx, ⟨.nil, .nil, .nil⟩, rfl, b12.trans (bx.mono b12.size), b12.size, Nat.le_trans b1.size hlow.1, Nat.le_trans b1.size hlow.2.1, Nat.le_trans b1.size hlow.2.2⟩
  clear b1 b2 b12 hlow hb bx hx
  generalize w2.alloc (.cells #[.int .u64 lk, .slice none 0 0, .slice none 0 0, .slice none 0 0] 45) = w3 at P0 ⊢
  generalize w2.heap.size = X at P0 ⊢
  have HP := aside_of P0
  clear P0
  go_wp2
  go_loopg [5, 25] n (fun gh v5 v25 wr => ∃ (k b ml mm wl mt : Nat) (B : BK) (d : RK) (aL aM aT : Option Addr) (cL cM cT : Nat), k ≤ n ∧ gh = n - k ∧ v25 = .int .i64 k ∧ v5 = .pointer (some ⟨b, 0, none⟩) ∧ Aside (Rel B d k) ∧ Aside (PL W X k lk b ml mm wl mt B d aL aM aT cL cM cT wr))
  case atStart => exact ⟨0, b, ml, mm, wl, mt, _, _, none, none, none, 0, 0, 0, by omega, rfl, rfl, rfl, aside_of (Rel.start lk), HP⟩
  case round =>
    clear HP
    obtain ⟨k, b, ml, mm, wl, mt, B, d, aL, aM, aT, cL, cM, cT, hk, rfl, rfl, rfl, HR, HP⟩ := hrel
    by_cases hkn : k < n
    · obtain ⟨g, o, dd, id, t, nw, rfl, hg, hA, hid, hnw, hd0, hd1⟩ := F.out k hkn
      have hgX : g < W.heap.size := hg
      have c0 := cell_belowB HP.out.low hg hA.c0
      have c1 := cell_belowB HP.out.low hg hA.c1
      have c2 := cell_belowB HP.out.low hg hA.c2
      have c3 := cell_belowB HP.out.low hg hA.c3
      have HX := aside_of (And.intro HR.out (And.intro hnw (And.intro hid hgX)))
      have hkn' : (k : Int) < (n : Int) := by omega
      clear hA hid hnw hg hgX
      go_upto_region 9 with fail
      have ba := below_alloc wr (.cells #[.int .u8 dd, .int .u64 id, .int .i64 t, .int .u64 nw] 28)
      have hrow : (wr.alloc (.cells #[.int .u8 dd, .int .u64 id, .int .i64 t, .int .u64 nw] 28)).heap[wr.heap.size]? = some (.cells #[.int .u8 dd, .int .u64 id, .int .i64 t, .int .u64 nw] 28 (0, 0)) := heap_new _ _
      have Q0 : QL W X wr.heap.size k lk dd id t nw b ml mm wl mt B d aL aM aT cL cM cT (wr.alloc (.cells #[.int .u8 dd, .int .u64 id, .int .i64 t, .int .u64 nw] 28)) :=
        ⟨HP.out.below ba, ⟨by simp only [World.cell?]; rw [hrow]; rfl, by simp only [World.cell?]; rw [hrow]; rfl, by simp only [World.cell?]; rw [hrow]; rfl, by simp only [World.cell?]; rw [hrow]; rfl⟩, fun e => by have := RowB.lt HP.out.box; omega⟩
      clear ba hrow c0 c1 c2 c3
      generalize wr.alloc (.cells #[.int .u8 dd, .int .u64 id, .int .i64 t, .int .u64 nw] 28) = w4 at Q0 ⊢
      generalize wr.heap.size = Y at Q0 ⊢
      have a0 := Q0.a.c0
      have a1 := Q0.a.c1
      have a2 := Q0.a.c2
      have a3 := Q0.a.c3
      simp only [Nat.zero_add] at a1 a2 a3
      have HQ0 := aside_of Q0
      have hq8 : 0 ≤ dd % 8 ∧ dd % 8 < 8 := by omega
      by_cases h128 : 128 ≤ dd
      · have hcl := clone_calls Q0.p.bk
        have hlB : U64 B.leak := by rw [← HX.out.1.leak, Q0.p.lkd]; exact HS.out.2.2
        have HLB := aside_of hlB
        clear Q0 hlB
        go_upto_block 2 with (first
          | (go_at_call 20; with_reducible refine hcl.mono ?_; clear hcl; rintro e w5 ⟨b', ml', mm', wl', mt', he, hc⟩; subst he; have H5 := aside_of (Two.first HQ0.out hc); clear hc; clear a0 a1 a2 a3; have a0 := H5.out.q.a.c0; have a1 := H5.out.q.a.c1; have a2 := H5.out.q.a.c2; have a3 := H5.out.q.a.c3; (simp only [Nat.zero_add] at a1 a2 a3); have hbg := begin_calls H5.out.o HLB.out id 0 (now := 0) (show U64 0 from by unfold U64; omega))
          | (go_at_call 15; with_reducible refine hbg.mono ?_; clear hbg; rintro e w6 ⟨he, hk6, hu6⟩; subst he; have H6 := aside_of (Two.step H5.out hk6 hu6); clear hk6 hu6; clear a0 a1 a2 a3; have a0 := H6.out.q.a.c0; have a1 := H6.out.q.a.c1; have a2 := H6.out.q.a.c2; have a3 := H6.out.q.a.c3; (simp only [Nat.zero_add] at a1 a2 a3); have hlk := pleaks2 HS.out.2.1 0 0 H6.out.o HX.out.1 (by omega) HX.out.2.2.1 1152921504606846976)
          | (go_at_call 13; with_reducible refine hlk.mono ?_; clear hlk; rintro e w7 ⟨v7, B7, he, hk7, hu7⟩; subst he; have H7 := aside_of (Two.step H6.out hk7 hu7); clear hk7 hu7; clear a0 a1 a2 a3; have a0 := H7.out.q.a.c0; have a1 := H7.out.q.a.c1; have a2 := H7.out.q.a.c2; have a3 := H7.out.q.a.c3; (simp only [Nat.zero_add] at a1 a2 a3); have hen := end_calls H7.out.o id t)
          | (go_at_call 11; with_reducible refine hen.mono ?_; clear hen; rintro e w8 ⟨he, hk8, hu8⟩; subst he; have H8 := aside_of (Two.step H7.out hk8 hu8); clear hk8 hu8; clear a0 a1 a2 a3; have a0 := H8.out.q.a.c0; have a1 := H8.out.q.a.c1; have a2 := H8.out.q.a.c2; have a3 := H8.out.q.a.c3; (simp only [Nat.zero_add] at a1 a2 a3)))
        clear a0 a1 a2 a3
        generalize dd % 8 = q at hq8 ⊢
        refine switch_all _ (by rfl) _ H8.out.q HX.out.1 (by omega) (by omega) HS.out.2.1 HS.out.2.2 HX.out.2.1 HX.out.2.2.1 (aside_of ?_)
        intro v12 v13 v50 v51 v52 v53 v54 v55 v56 v57 v58 v59 v60 v61 v62 v63 v64 v65 v66 v67 v68 v69 v70 v71 v72 v73 v74 v75 v76 v77 v78 v79 v80 v81 v82 v83 v84 v85 v86 v87 v88 v89 v90 v91 v92 v93 v94 v95 v96 v97 v98 v99 v100 v101 v102 v103 v104 v105 v106 v107 v108 v109 v110 v111 v112 v113 v114 v115 v116 v117 v118 v119 v120 v121 v122 v123 v124 v125 v126 v127 v128 v129 v130 wx f B2 d2 aL2 aM2 aT2 cL2 cM2 cT2 hq2 hrel2
        have ht := told_calls HS.out.1 hq2.p.bk hq2.p.rb id t (hrel2.same id t) (Nat.le_trans hrel2.len (by omega)) (Nat.le_trans hrel2.mlen (by omega)) hrel2.wfL
        rw [hq2.p.lkd] at ht
        have HE := aside_of (And.intro hq2 hrel2)
        have q0 := hq2.p.box.q0; have q1 := hq2.p.box.q1; have q2 := hq2.p.box.q2; have q3 := hq2.p.box.q3; have f0 := RowB.fz hq2.p.box 0; have f1 := RowB.fz hq2.p.box 1; have f2 := RowB.fz hq2.p.box 2; have f3 := RowB.fz hq2.p.box 3; have a0 := hq2.a.c0; have a1 := hq2.a.c1; have a2 := hq2.a.c2; have a3 := hq2.a.c3; simp only [Nat.zero_add] at a1 a2 a3
        clear hq2 hrel2
        go_wp2_with (go_at_call 28; with_reducible refine ht.mono ?_; clear ht; rintro e w8 ⟨he, b8⟩; subst he)
        go_roundg (n - (k + 1))
        case measure => omega
        case rel => exact ⟨k + 1, _, _, _, _, _, B2, d2, aL2, aM2, aT2, cL2, cM2, cT2, by omega, rfl, by go_num, rfl, aside_of HE.out.2, aside_of (HE.out.1.p.below b8).any⟩
      · clear Q0
        go_upto_block 2 with fail
        clear a0 a1 a2 a3
        generalize dd % 8 = q at hq8 ⊢
        refine switch_all _ (by rfl) _ HQ0.out HX.out.1 (by omega) (by omega) HS.out.2.1 HS.out.2.2 HX.out.2.1 HX.out.2.2.1 (aside_of ?_)
        intro v12 v13 v50 v51 v52 v53 v54 v55 v56 v57 v58 v59 v60 v61 v62 v63 v64 v65 v66 v67 v68 v69 v70 v71 v72 v73 v74 v75 v76 v77 v78 v79 v80 v81 v82 v83 v84 v85 v86 v87 v88 v89 v90 v91 v92 v93 v94 v95 v96 v97 v98 v99 v100 v101 v102 v103 v104 v105 v106 v107 v108 v109 v110 v111 v112 v113 v114 v115 v116 v117 v118 v119 v120 v121 v122 v123 v124 v125 v126 v127 v128 v129 v130 wx f B2 d2 aL2 aM2 aT2 cL2 cM2 cT2 hq2 hrel2
        have ht := told_calls HS.out.1 hq2.p.bk hq2.p.rb id t (hrel2.same id t) (Nat.le_trans hrel2.len (by omega)) (Nat.le_trans hrel2.mlen (by omega)) hrel2.wfL
        rw [hq2.p.lkd] at ht
        have HE := aside_of (And.intro hq2 hrel2)
        have q0 := hq2.p.box.q0; have q1 := hq2.p.box.q1; have q2 := hq2.p.box.q2; have q3 := hq2.p.box.q3; have f0 := RowB.fz hq2.p.box 0; have f1 := RowB.fz hq2.p.box 1; have f2 := RowB.fz hq2.p.box 2; have f3 := RowB.fz hq2.p.box 3; have a0 := hq2.a.c0; have a1 := hq2.a.c1; have a2 := hq2.a.c2; have a3 := hq2.a.c3; simp only [Nat.zero_add] at a1 a2 a3
        clear hq2 hrel2
        go_wp2_with (go_at_call 28; with_reducible refine ht.mono ?_; clear ht; rintro e w8 ⟨he, b8⟩; subst he)
        go_roundg (n - (k + 1))
        case measure => omega
        case rel => exact ⟨k + 1, _, _, _, _, _, B2, d2, aL2, aM2, aT2, cL2, cM2, cT2, by omega, rfl, by go_num, rfl, aside_of HE.out.2, aside_of (HE.out.1.p.below b8).any⟩
    · have hkn' : ¬ (k : Int) < (n : Int) := by omega
      go_wp2
      go_ret
      exact ⟨rfl, HP.out.low⟩

end Go.Proofs.YtbdnlaepeladbaaGreatDoor

namespace Go.Proofs.YtbdnlaepeladbaaGreatDoor
open Go.ChangeShapes Go.WideShapes Go.ChangeAt Go.RowKit Go.Eng

theorem u8_range {x : Int} (h : (Lit.int .u8 x).wf = true) : 0 ≤ x ∧ x < 256 := by
  simp only [Lit.wf, Bool.and_eq_true, decide_eq_true_eq] at h
  have hmin : IntKind.u8.min = 0 := by decide
  have hmax : IntKind.u8.max = 255 := by decide
  rw [hmin, hmax] at h
  omega

theorem u64_of {x : Int} (h : (Lit.int .u64 x).wf = true) : U64 x := by
  simp only [Lit.wf, Bool.and_eq_true, decide_eq_true_eq] at h
  have hmin : IntKind.u64.min = 0 := by decide
  have hmax : IntKind.u64.max = 18446744073709551615 := by decide
  rw [hmin, hmax] at h
  exact ⟨by omega, by omega⟩

/-- The law, at whatever slice of acts. -/
theorem plays_all (W : World) (haw : Calls Tryz.prog 8 #[] W fun e w' => e = .returned (.bool true) ∧ Below W.heap.size W w') (a : Option Addr) (n cap : Nat) (lk : Int) (hlk : U64 lk)
    (F : n = 0 ∨ ∃ b off, a = some ⟨b, off, none⟩ ∧ b < W.heap.size ∧ ∀ i, i < n → FourAt W b (off + i * 4) .u8 .u64 .i64 .u64) :
    Calls Tryz.prog 4 #[.int .u64 lk, .slice a n cap] W fun e w' => e = .returned (.bool true) ∧ Below W.heap.size W w' := by
  by_cases h1 : 100 < n
  · exact plays_long W haw a n cap lk h1
  · refine plays_some (sortedLs_of appLs sortOwn) (keysW_of appTm sortFuncOwn) W haw a n cap (by omega) lk hlk (aside_of ?_)
    intro k hk
    rcases F with rfl | ⟨b, off, rfl, hb, hF⟩
    · omega
    · obtain ⟨x0, x1, x2, x3, ⟨h0, h1, h2, h3⟩, w0, w1, _, w3⟩ := hF k hk
      exact ⟨b, off, x0, x1, x2, x3, rfl, hb, ⟨h0, h1, h2, h3⟩, w1, u64_of w3, (u8_range w0).1, (u8_range w0).2⟩

end Go.Proofs.YtbdnlaepeladbaaGreatDoor
