/- The law's walk, at whatever acts. Conditions: how the argument lies in memory; that the example is found true. -/
import Derived.Test.YtbdnlaepeladbaaGreatDoorBgH
import Derived.Test.YtbdnlaepeladbaaGreatDoorBgG
import Derived.Test.YtbdnlaepeladbaaGreatDoorShelfB
set_option linter.unusedSimpArgs false
set_option linter.unusedVariables false
namespace Go.Proofs.YtbdnlaepeladbaaGreatDoor
open Go.ChangeShapes Go.WideShapes Go.ChangeAt Go.RowKit Go.Eng

variable {W w v v' : World} {X Y b : Nat} {dd id old now st q : Int} {ns nd : List Int} {B Bd : List (List Int)} {D R : Nat → Prop} {a1 a2 : Option Addr} {c1 c2 : Nat}

set_option maxHeartbeats 4000000 in
set_option maxRecDepth 1000000 in
theorem arm_all (code : Code) (hcode : (Tryz.f5.body.bind (Code.blk 4)) = some code) (Q : Exit → Act → World → Prop)
    (hq : QB W X Y dd id old now st b ns B D R ns B a1 c1 a2 c2 w) (hlB : B.length ≤ 500) (hln : ns.length ≤ 500) (hid : (Lit.int .u64 id).wf = true) (hold : (Lit.int .u64 old).wf = true) (hnow : (Lit.int .u64 now).wf = true) (hst : (Lit.int .i64 st).wf = true) (hd0 : 0 ≤ dd) (hdq : dd % 8 = q) (hq3 : 0 ≤ q ∧ q < 8)
    {u0 u1 u2 u5 u7 u8 u9 u10 u13 u14 u15 u16 u17 u18 u19 u20 u21 u22 u23 u24 u25 u26 u27 u28 u29 u30 u31 u32 u33 u34 u35 u36 u37 u38 u39 u40 u41 u42 u43 u44 u45 u46 u47 u48 u49 u50 u51 u52 u53 u54 u55 u56 u57 u58 u59 u60 u61 u62 u63 u64 u66 u67 u68 u69 u70 u71 u72 u73 u74 u75 u76 u77 u78 u79 u80 u81 u82 u83 u84 u85 u86 u87 u88 u89 u90 u91 u92 u93 u94 u95 u96 u97 u98 u99 u100 u101 u102 u103 u104 u105 u106 u107 u108 u109 u110 u111 u112 u113 u114 u115 u116 u117 u118 u119 u120 u121 u122 u123 u124 u125 u126 u127 u128 u129 u130 u131 u132 u133 u134 u135 u136 u137 u138 u139 u140 u141 u142 u143 u144 u145 u146 u147 u148 u149 u150 u151 u152 u153 u154 u155 u156 u157 u158 u159 u160 u161 u162 u163 u164 u165 u166 u167 u168 u169 u170 u171 u172 u173 u174 u175 u176 u177 u178 u179 u180 u181 u182 u183 u184 u185 u186 u187 u188 u189 u190 u191 u192 u193 u194 u195 u196 u197 u198 u199 u200 u201 u202 u203 u204 u205 u206 u207 u208 u209 : Value}
    (hQ : Aside (∀ (v13 v14 v15 v16 v17 v18 v19 v66 v67 v68 v69 v70 v71 v72 v73 v74 v75 v76 v77 v78 v79 v80 v81 v82 v83 v84 v85 v86 v87 v88 v89 v90 v91 v92 v93 v94 v95 v96 v97 v98 v99 v100 v101 v102 v103 v104 v105 v106 v107 v108 v109 v110 v111 v112 v113 v114 v115 v116 v117 v118 v119 v120 v121 v122 v123 v124 v125 v126 v127 v128 v129 v130 v131 v132 v133 v134 v135 v136 v137 v138 v139 v140 v141 v142 v143 v144 v145 v146 v147 v148 v149 v150 v151 v152 v153 v154 v155 v156 v157 v158 v159 v160 v161 v162 v163 v164 v165 v166 v167 v168 v169 v170 v171 v172 v173 v174 v175 v176 v177 v178 : Value) (wx : World) (f : Int) (ns' : List Int) (B' : List (List Int)) (D' R' : Nat → Prop) (a1 : Option Addr) (c1 : Nat) (a2 : Option Addr) (c2 : Nat), QB W X Y dd id old now st b ns' B' D' R' ns' B' a1 c1 a2 c2 wx → B'.length ≤ B.length + 1 → ns'.length ≤ ns.length + 1 → Q .normal { tmps := #[u0, u1, u2, .pointer (some ⟨b, 0, none⟩), .pointer (some ⟨X, 0, none⟩), u5, .pointer (some ⟨Y, 0, none⟩), u7, u8, u9, u10, .int .i64 f, .int .i64 f, v13, v14, v15, v16, v17, v18, v19, u20, u21, u22, u23, u24, u25, u26, u27, u28, u29, u30, u31, u32, u33, u34, u35, u36, u37, u38, u39, u40, u41, u42, u43, u44, u45, u46, u47, u48, u49, u50, u51, u52, u53, u54, u55, u56, u57, u58, u59, u60, u61, u62, u63, u64, .int .u8 q, v66, v67, v68, v69, v70, v71, v72, v73, v74, v75, v76, v77, v78, v79, v80, v81, v82, v83, v84, v85, v86, v87, v88, v89, v90, v91, v92, v93, v94, v95, v96, v97, v98, v99, v100, v101, v102, v103, v104, v105, v106, v107, v108, v109, v110, v111, v112, v113, v114, v115, v116, v117, v118, v119, v120, v121, v122, v123, v124, v125, v126, v127, v128, v129, v130, v131, v132, v133, v134, v135, v136, v137, v138, v139, v140, v141, v142, v143, v144, v145, v146, v147, v148, v149, v150, v151, v152, v153, v154, v155, v156, v157, v158, v159, v160, v161, v162, v163, v164, v165, v166, v167, v168, v169, v170, v171, v172, v173, v174, v175, v176, v177, v178, u179, u180, u181, u182, u183, u184, u185, u186, u187, u188, u189, u190, u191, u192, u193, u194, u195, u196, u197, u198, u199, u200, u201, u202, u203, u204, u205, u206, u207, u208, u209], defers := [] } wx)) :
    code.wp Tryz.prog Q { tmps := #[u0, u1, u2, .pointer (some ⟨b, 0, none⟩), .pointer (some ⟨X, 0, none⟩), u5, .pointer (some ⟨Y, 0, none⟩), u7, u8, u9, u10, .int .i64 0, .int .i64 0, u13, u14, u15, u16, u17, u18, u19, u20, u21, u22, u23, u24, u25, u26, u27, u28, u29, u30, u31, u32, u33, u34, u35, u36, u37, u38, u39, u40, u41, u42, u43, u44, u45, u46, u47, u48, u49, u50, u51, u52, u53, u54, u55, u56, u57, u58, u59, u60, u61, u62, u63, u64, .int .u8 q, u66, u67, u68, u69, u70, u71, u72, u73, u74, u75, u76, u77, u78, u79, u80, u81, u82, u83, u84, u85, u86, u87, u88, u89, u90, u91, u92, u93, u94, u95, u96, u97, u98, u99, u100, u101, u102, u103, u104, u105, u106, u107, u108, u109, u110, u111, u112, u113, u114, u115, u116, u117, u118, u119, u120, u121, u122, u123, u124, u125, u126, u127, u128, u129, u130, u131, u132, u133, u134, u135, u136, u137, u138, u139, u140, u141, u142, u143, u144, u145, u146, u147, u148, u149, u150, u151, u152, u153, u154, u155, u156, u157, u158, u159, u160, u161, u162, u163, u164, u165, u166, u167, u168, u169, u170, u171, u172, u173, u174, u175, u176, u177, u178, u179, u180, u181, u182, u183, u184, u185, u186, u187, u188, u189, u190, u191, u192, u193, u194, u195, u196, u197, u198, u199, u200, u201, u202, u203, u204, u205, u206, u207, u208, u209], defers := [] } w := by
  have hqq : (q = 0 ∨ q = 1) ∨ (q = 2 ∨ q = 3) ∨ q = 4 ∨ q = 5 ∨ q = 6 ∨ q = 7 := by omega
  rcases hqq with h | h | h | h | h | h
  · exact arm_enter code hcode Q hq hlB hln hid hold hnow hst hd0 hdq h hQ
  · exact arm_swap code hcode Q hq hlB hln hid hold hnow hst hd0 hdq h hQ
  · exact arm_swap4 code hcode Q hq hlB hln hid hold hnow hst hd0 hdq h hQ
  · exact arm_proved code hcode Q hq hlB hln hid hold hnow hst hd0 hdq h hQ
  · exact arm_publish code hcode Q hq hlB hln hid hold hnow hst hd0 hdq h hQ
  · exact arm_unlist code hcode Q hq hlB hln hid hold hnow hst hd0 hdq h hQ


/-- What holds at each round. -/
structure PB15 (W : World) (X b : Nat) (ns : List Int) (B : List (List Int)) (D R : Nat → Prop) (nd : List Int) (Bd : List (List Int)) (a1 : Option Addr) (c1 : Nat) (a2 : Option Addr) (c2 : Nat) (v : World) : Prop where
  bag : PBg v b ns B D R
  dW : ∀ c, D c → W.heap.size ≤ c
  box : v.heap[X]? = some (.cells #[.slice a1 Bd.length c1, .slice a2 nd.length c2] 61 (0, 0))
  l : LstAt fiveK v (.slice a1 Bd.length c1) Bd
  n : LstAt [.int .u64] v (.slice a2 nd.length c2) (oneRows nd)
  hX : W.heap.size ≤ X
  nX : ¬ D X
  n1 : ∀ c, blkOf (.slice a1 Bd.length c1) c → ¬ D c ∧ c ≠ X
  n2 : ∀ c, blkOf (.slice a2 nd.length c2) c → ¬ D c ∧ c ≠ X
  rX : ¬ R X
  low : Below W.heap.size W v

theorem QB.p (h : QB W X Y dd id old now st b ns B D R nd Bd a1 c1 a2 c2 v) : PB15 W X b ns B D R nd Bd a1 c1 a2 c2 v := ⟨h.bag, h.dW, h.box, h.l, h.n, h.hX, h.nX, h.n1, h.n2, h.rX, h.low⟩
theorem PB15.below (h : PB15 W X b ns B D R nd Bd a1 c1 a2 c2 v) (hb : Below v.heap.size v v') : PB15 W X b ns B D R nd Bd a1 c1 a2 c2 v' :=
  ⟨h.bag.below hb, h.dW, (hb.block _ (Array.getElem?_eq_some_iff.1 h.box).1).trans h.box, h.l.below hb, h.n.below hb, h.hX, h.nX, h.n1, h.n2, h.rX, h.low.trans (hb.mono h.low.size)⟩
theorem PB15.toQ (h : PB15 W X b ns B D R nd Bd a1 c1 a2 c2 v) : QB W X v.heap.size dd id old now st b ns B D R nd Bd a1 c1 a2 c2 (v.alloc (.cells #[.int .u8 dd, .int .u64 id, .int .u64 old, .int .u64 now, .int .i64 st] 63)) := by
  have h' := h.below (b_below_alloc v (.cells #[.int .u8 dd, .int .u64 id, .int .u64 old, .int .u64 now, .int .i64 st] 63))
  exact ⟨h'.bag, h.dW, h'.box, h'.l, h'.n, h.hX, h.nX, h.n1, h.n2, h.rX, b_heap_new _ _, fun hd => by have := h.bag.2.1 _ hd; omega, fun e => by have := (Array.getElem?_eq_some_iff.1 h.box).1; omega, h'.low⟩

theorem cloneB_calls (m : Nat) (es : List (Int × Pl)) (w : World) (h : MapSt .u64 plV w m es) : Calls Tryz.prog 92 #[.map (some m)] w fun e w' => e = .returned (.map (some w.heap.size)) ∧ MapSt .u64 plV w' w.heap.size es ∧ Below w.heap.size w w' ∧ w'.heap.size = w.heap.size + 1 := by
  obtain ⟨ms, ck, h1, h2, h3⟩ := h
  refine (AnyW.maps_Clone Tryz.cloneB m ms.toArray ck w h1).mono ?_
  rintro e w' ⟨he, rfl⟩
  exact ⟨he, ⟨ms, ck, b_heap_new _ _, h2, h3⟩, b_below_alloc _ _, by simp⟩

theorem told15_all {v1 v2 : Value} (h : PBg w b ns B D R) (h1 : LstAt fiveK w v1 B) (h2 : LstAt [.int .u64] w v2 (oneRows ns)) (hl : B.length ≤ 1000) (hn : ns.length ≤ 1000) :
    Calls Tryz.prog 43 #[.pointer (some ⟨b, 0, none⟩), .agg #[v1, v2]] w fun e w' => e = .returned (.bool true) ∧ Below w.heap.size w w' :=
  told15_calls h h1 h2 hl hn (fun _ s hv => pcount hv hl s) (fun _ hv => pids hv hl)

/-- An act in the argument. -/
def Act15 (w : World) (g o : Nat) (dd id old now st : Int) : Prop := w.cell? ⟨g, o, none⟩ = some (.int .u8 dd) ∧ w.cell? ⟨g, o + 1, none⟩ = some (.int .u64 id) ∧ w.cell? ⟨g, o + 2, none⟩ = some (.int .u64 old) ∧ w.cell? ⟨g, o + 3, none⟩ = some (.int .u64 now) ∧ w.cell? ⟨g, o + 4, none⟩ = some (.int .i64 st)

set_option maxRecDepth 1000000 in
theorem bplays_long (W : World) (haw : Calls Tryz.prog 29 #[] W fun e w' => e = .returned (.bool true) ∧ Below W.heap.size W w') (p : Option Addr) (n cap : Nat) (hn : 80 < n) :
    Calls Tryz.prog 5 #[.slice p n cap] W fun e w' => e = .returned (.bool true) ∧ Below W.heap.size W w' := by
  have hi : (80 : Int) < (n : Int) := by omega
  go_enter Tryz.func5, Tryz.ntmps5
  go_wp2_with (go_at_call 29; with_reducible refine haw.mono ?_; rintro e w1 ⟨rfl, b1⟩)
  go_ret
  exact ⟨rfl, b1⟩

set_option maxHeartbeats 8000000 in
set_option maxRecDepth 1000000 in
theorem bplays_some (W : World) (haw : Calls Tryz.prog 29 #[] W fun e w' => e = .returned (.bool true) ∧ Below W.heap.size W w') (a : Option Addr) (n cap : Nat) (hn : n ≤ 80)
    (F : Aside (∀ k, k < n → ∃ g o dd id old now st, a = some ⟨g, o, none⟩ ∧ g < W.heap.size ∧ Act15 W g (o + k * 5) dd id old now st ∧ (Lit.int .u64 id).wf = true ∧ (Lit.int .u64 old).wf = true ∧ (Lit.int .u64 now).wf = true ∧ (Lit.int .i64 st).wf = true ∧ 0 ≤ dd ∧ dd < 256)) :
    Calls Tryz.prog 5 #[.slice a n cap] W fun e w' => e = .returned (.bool true) ∧ Below W.heap.size W w' := by
  have hi : ¬ (80 : Int) < (n : Int) := by omega
  go_enter Tryz.func5, Tryz.ntmps5
  go_upto_region 7 with (first
    | (go_at_call 29; with_reducible refine haw.mono ?_; clear haw; rintro e w1 ⟨he, b1⟩; subst he; have hnew := pnew w1)
    | (go_at_call 30; with_reducible refine hnew.mono ?_; clear hnew; rintro e w2 ⟨b, D, R, he, hb, hlow, hrx, b2⟩; subst he))
  have b12 := b1.trans (b2.mono b1.size)
  have bx := b_below_alloc w2 (.cells #[.slice none 0 0, .slice none 0 0] 61)
  have P0 : PB15 W w2.heap.size b [] [] D R [] [] none 0 none 0 (w2.alloc (.cells #[.slice none 0 0, .slice none 0 0] 61)) :=
    ⟨hb.below bx, fun c hc => Nat.le_trans b1.size (hlow c hc), b_heap_new _ _, lst_nil _, lst_nil _, b12.size, (fun hd => by have := hb.2.1 _ hd; omega), (fun c hc => by obtain ⟨o, n, cc, e⟩ := hc; cases e), (fun c hc => by obtain ⟨o, n, cc, e⟩ := hc; cases e), hrx _, b12.trans (bx.mono b12.size)⟩
  clear b1 b2 b12 hlow hb bx hrx
  generalize w2.alloc (.cells #[.slice none 0 0, .slice none 0 0] 61) = w3 at P0 ⊢
  generalize w2.heap.size = X at P0 ⊢
  have HP := aside_of P0
  clear P0
  go_wp2
  go_loopg [3, 32] n (fun gh v3 v32 wr => ∃ (k b : Nat) (ns : List Int) (B : List (List Int)) (D R : Nat → Prop) (a1 : Option Addr) (c1 : Nat) (a2 : Option Addr) (c2 : Nat), k ≤ n ∧ gh = n - k ∧ B.length ≤ k ∧ ns.length ≤ k ∧ v32 = .int .i64 k ∧ v3 = .pointer (some ⟨b, 0, none⟩) ∧ Aside (PB15 W X b ns B D R ns B a1 c1 a2 c2 wr))
  case atStart => exact ⟨0, b, [], [], D, R, none, 0, none, 0, by omega, rfl, by simp, by simp, rfl, rfl, HP⟩
  case round =>
    clear HP
    obtain ⟨k, b, ns, B, D, R, a1, c1, a2, c2, hk, rfl, hlB, hln, rfl, rfl, HP⟩ := hrel
    by_cases hkn : k < n
    · obtain ⟨g, o, dd, id, old, now, st, rfl, hg, hA, hid, hold, hnow, hst, hd0, hd1⟩ := F.out k hkn
      have x0 := cell_belowB HP.out.low hg hA.1
      have x1 := cell_belowB HP.out.low hg hA.2.1
      have x2 := cell_belowB HP.out.low hg hA.2.2.1
      have x3 := cell_belowB HP.out.low hg hA.2.2.2.1
      have x4 := cell_belowB HP.out.low hg hA.2.2.2.2
      have HX := aside_of (And.intro hid (And.intro hold (And.intro hnow (And.intro hst hg))))
      have hkn' : (k : Int) < (n : Int) := by omega
      clear hA hid hold hnow hst hg
      go_upto_region 10 with fail
      have Q0 : QB W X wr.heap.size dd id old now st b ns B D R ns B a1 c1 a2 c2 (wr.alloc (.cells #[.int .u8 dd, .int .u64 id, .int .u64 old, .int .u64 now, .int .i64 st] 63)) := HP.out.toQ
      clear x0 x1 x2 x3 x4
      generalize wr.alloc (.cells #[.int .u8 dd, .int .u64 id, .int .u64 old, .int .u64 now, .int .i64 st] 63) = w4 at Q0 ⊢
      generalize wr.heap.size = Y at Q0 ⊢
      obtain ⟨⟨q0, q1, f0, f1⟩, y0, y1, y2, y3, y4⟩ := (Q0).cells
      have HQ0 := aside_of Q0
      have hq8 : 0 ≤ dd % 8 ∧ dd % 8 < 8 := by omega
      by_cases h128 : 128 ≤ dd
      · have hcl := pclone Q0.bag cloneB_calls
        clear Q0
        go_upto_block 2 with (go_at_call 31; with_reducible refine hcl.mono ?_; clear hcl; rintro e w5 ⟨b', D', he, hp5, hn5, b5⟩; subst he; have H5 := aside_of (HQ0.out.clone hp5 hn5 b5); clear hp5 hn5 b5)
        clear q0 q1 f0 f1 y0 y1 y2 y3 y4
        go_wp2
        go_loopg [41] 4 (fun gh v41 wx => ∃ (s : Nat) (B0 : List (List Int)) (D0 R0 : Nat → Prop), s ≤ 4 ∧ gh = 4 - s ∧ v41 = .int .i64 s ∧ Aside (Two15 W X Y dd id old now st b' ns B D' R b ns B0 D0 R0 ns B a1 c1 a2 c2 wx))
        case atStart => exact ⟨0, B, D, R, by omega, rfl, rfl, H5⟩
        case round =>
          clear H5
          obtain ⟨s, B0, D0, R0, hs, rfl, rfl, H5⟩ := hrel
          by_cases hs4 : s < 4
          · have hsi : (s : Int) < 4 := by omega
            have T0 := H5.out
            obtain ⟨⟨q0, q1, f0, f1⟩, y0, y1, y2, y3, y4⟩ := (T0.q).cells
            have hld := pload T0.o id
            have hww := T0.o.word_wf id
            generalize wordR B0 id = x at hld hww
            generalize (rfind id B0).isSome = io at hld
            have hsw := fun (v : World) (hv : PBg v b ns B0 D0 R0) => pswap hv HX.out.1 hww (st := (s : Int)) (now := 1) (by simp only [Lit.wf, Bool.and_eq_true, decide_eq_true_eq]; exact ⟨by rw [show IntKind.i64.min = -9223372036854775808 by decide]; omega, by rw [show IntKind.i64.max = 9223372036854775807 by decide]; omega⟩) (by decide)
            clear T0
            go_upto_region 16 with (go_at_call 32; with_reducible refine hld.mono ?_; clear hld; rintro e w6 ⟨he, b6⟩; subst he)
            have T6 := H5.out.below b6
            clear q0 q1 f0 f1 y0 y1 y2 y3 y4
            obtain ⟨⟨q0, q1, f0, f1⟩, y0, y1, y2, y3, y4⟩ := (T6.q).cells
            have hsw6 := hsw _ T6.o
            have H6 := aside_of T6
            clear T6 b6 hsw
            go_wp2_with (go_at_call 33; with_reducible refine hsw6.mono ?_; clear hsw6; rintro e w7 ⟨he, ho⟩; subst he; have H7 := aside_of (H6.out.acts ho); clear ho)
            go_roundg (4 - (s + 1))
            case measure => omega
            case rel =>
              obtain ⟨D7, R7, T7⟩ := H7.out
              exact ⟨s + 1, _, D7, R7, by omega, rfl, by go_num, aside_of T7⟩
          · obtain rfl : s = 4 := by omega
            have T0 := H5.out
            obtain ⟨⟨q0, q1, f0, f1⟩, y0, y1, y2, y3, y4⟩ := (T0.q).cells
            have hpu := ppublish T0.o (by omega) HX.out.1
            clear T0 hs4
            go_upto_block 4 with (go_at_call 34; with_reducible refine hpu.mono ?_; clear hpu; rintro e w7 ⟨he, ho⟩; subst he; have H7 := aside_of (show ∃ D7, QB W X Y dd id old now st b' ns B D' R ns B a1 c1 a2 c2 w7 from by obtain ⟨D7, R7, T7⟩ := H5.out.acts ho; exact ⟨D7, T7.q⟩); clear ho; obtain ⟨⟨q0, q1, f0, f1⟩, y0, y1, y2, y3, y4⟩ := (H7.out.elim fun _ h => h).cells)
            clear q0 q1 f0 f1 y0 y1 y2 y3 y4
            have H8 := aside_of (show QB W X Y dd id old now st b' ns B D' R ns B a1 c1 a2 c2 w7 from H7.out.elim fun _ h => h)
            refine arm_all _ (by rfl) _ H8.out (by omega) (by omega) HX.out.1 HX.out.2.1 HX.out.2.2.1 HX.out.2.2.2.1 hd0 rfl hq8 (aside_of ?_)
            intro v13 v14 v15 v16 v17 v18 v19 v66 v67 v68 v69 v70 v71 v72 v73 v74 v75 v76 v77 v78 v79 v80 v81 v82 v83 v84 v85 v86 v87 v88 v89 v90 v91 v92 v93 v94 v95 v96 v97 v98 v99 v100 v101 v102 v103 v104 v105 v106 v107 v108 v109 v110 v111 v112 v113 v114 v115 v116 v117 v118 v119 v120 v121 v122 v123 v124 v125 v126 v127 v128 v129 v130 v131 v132 v133 v134 v135 v136 v137 v138 v139 v140 v141 v142 v143 v144 v145 v146 v147 v148 v149 v150 v151 v152 v153 v154 v155 v156 v157 v158 v159 v160 v161 v162 v163 v164 v165 v166 v167 v168 v169 v170 v171 v172 v173 v174 v175 v176 v177 v178 wx f ns2 B2 D2 R2 a3 c3 a4 c4 hq2 hB2 hn2
            have ht := told15_all hq2.bag hq2.l hq2.n (by omega) (by omega)
            have HE := aside_of hq2
            obtain ⟨⟨q0, q1, f0, f1⟩, y0, y1, y2, y3, y4⟩ := (hq2).cells
            clear hq2
            go_wp2_with (go_at_call 43; with_reducible refine ht.mono ?_; clear ht; rintro e w8 ⟨he, b8⟩; subst he; have H8 := aside_of (HE.out.below b8); clear b8)
            go_roundg (n - (k + 1))
            case measure => omega
            case rel => exact ⟨k + 1, b', ns2, B2, D2, R2, a3, c3, a4, c4, by omega, rfl, by omega, by omega, by go_num, rfl, aside_of H8.out.p⟩
      · clear Q0
        go_upto_block 4 with fail
        clear q0 q1 f0 f1 y0 y1 y2 y3 y4
        refine arm_all _ (by rfl) _ HQ0.out (by omega) (by omega) HX.out.1 HX.out.2.1 HX.out.2.2.1 HX.out.2.2.2.1 hd0 rfl hq8 (aside_of ?_)
        intro v13 v14 v15 v16 v17 v18 v19 v66 v67 v68 v69 v70 v71 v72 v73 v74 v75 v76 v77 v78 v79 v80 v81 v82 v83 v84 v85 v86 v87 v88 v89 v90 v91 v92 v93 v94 v95 v96 v97 v98 v99 v100 v101 v102 v103 v104 v105 v106 v107 v108 v109 v110 v111 v112 v113 v114 v115 v116 v117 v118 v119 v120 v121 v122 v123 v124 v125 v126 v127 v128 v129 v130 v131 v132 v133 v134 v135 v136 v137 v138 v139 v140 v141 v142 v143 v144 v145 v146 v147 v148 v149 v150 v151 v152 v153 v154 v155 v156 v157 v158 v159 v160 v161 v162 v163 v164 v165 v166 v167 v168 v169 v170 v171 v172 v173 v174 v175 v176 v177 v178 wx f ns2 B2 D2 R2 a3 c3 a4 c4 hq2 hB2 hn2
        have ht := told15_all hq2.bag hq2.l hq2.n (by omega) (by omega)
        have HE := aside_of hq2
        obtain ⟨⟨q0, q1, f0, f1⟩, y0, y1, y2, y3, y4⟩ := (hq2).cells
        clear hq2
        go_wp2_with (go_at_call 43; with_reducible refine ht.mono ?_; clear ht; rintro e w8 ⟨he, b8⟩; subst he; have H8 := aside_of (HE.out.below b8); clear b8)
        go_roundg (n - (k + 1))
        case measure => omega
        case rel => exact ⟨k + 1, b, ns2, B2, D2, R2, a3, c3, a4, c4, by omega, rfl, by omega, by omega, by go_num, rfl, aside_of H8.out.p⟩
    · obtain rfl : k = n := by omega
      have hp := HP.out
      have he := pentry0 hp.bag
      have hl := fun (v : World) (hv : PBg v b ns B D R) => pload hv 0
      have hz : rfind 0 B = none := by obtain ⟨⟨m, L, es, h1⟩, _⟩ := hp.bag; exact h1.zero
      have hw0 : wordR B 0 = 0 := by unfold wordR; rw [hz]; rfl
      rw [hz, hw0] at hl
      simp only [Option.isSome_none] at hl
      clear hz hw0 hp
      go_upto_region 49 with (go_at_call 44; with_reducible refine he.mono ?_; clear he; rintro e w5 ⟨he, b5⟩; subst he)
      have b6 : Below wr.heap.size wr (w5.alloc (.cells #[.int .u64 0, .int .u64 0, .int .u64 0, .int .u64 0, .int .u64 0] 78)) := b5.alloc b5.size _
      have r6 := b_heap_new w5 (.cells #[.int .u64 0, .int .u64 0, .int .u64 0, .int .u64 0, .int .u64 0] 78)
      have hl6 := hl _ (HP.out.bag.below b6)
      have H6 := aside_of (And.intro b6 r6)
      have h5s := aside_of (show w5.heap.size < (w5.alloc (.cells #[.int .u64 0, .int .u64 0, .int .u64 0, .int .u64 0, .int .u64 0] 78)).heap.size by simp)
      clear b6 r6 hl b5
      go_upto_region 50 with (go_at_call 32; with_reducible refine hl6.mono ?_; clear hl6; rintro e w7 ⟨he, b7⟩; subst he)
      obtain ⟨z0, z1, z2, z3, z4⟩ := cells5 ((b7.block _ h5s.out).trans H6.out.2)
      have H7 := aside_of (HP.out.below (H6.out.1.trans (b7.mono H6.out.1.size))).low
      clear b7
      go_wp2
      go_ret
      exact ⟨rfl, H7.out⟩

end Go.Proofs.YtbdnlaepeladbaaGreatDoor
