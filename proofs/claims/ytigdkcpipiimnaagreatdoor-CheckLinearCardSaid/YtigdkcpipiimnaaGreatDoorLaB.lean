/- The law's third loop: each answer has its one point. Conditions: how the events lie in memory. -/
import Derived.Test.YtigdkcpipiimnaaGreatDoorLaA
import Derived.Deep.CutBlock
namespace Go.Proofs.YtigdkcpipiimnaaGreatDoor
open Go.ChangeShapes Go.WideShapes Go.ChangeAt Go.RowKit Go.Eng Go.Deep

variable {w v v' w' : World} {C E wm : Nat} {lm rm : Option Nat} {c : CK} {e : Ev} {s : AuS}

set_option maxHeartbeats 4000000 in
set_option maxRecDepth 1000000 in
/-- The third loop: each answer has its one point. -/
theorem loopC (code : Code) (hcode : (Tryz.f3.body.bind (Code.blk 2)) = some code) (Q : Exit → Act → World → Prop) (W w9 : World) (B b off n m cap : Nat) (l : List Ev) (hm : n ≤ 100) (hle : m ≤ n) (hmcap : m ≤ cap) (HN : Aside (n = l.length))
    (CELL : Aside (∀ {v : World} {k : Nat} {e : Ev}, Below B W v → l[k]? = some e → EvCells v b (off + k * 6) e))
    (HAN : Aside (∀ {i : Nat} {e : Ev}, i < m → l[i]? = some e → e.kind = 2 → ∃ p q, scan e.thread (l.take i).reverse = ([p], some q) ∧ p.id = e.id ∧ p.err = e.err ∧ p.op = e.op ∧ q.op = e.op ∧ q.step ≤ e.step))
    (KEEP : Aside (∀ {v : World}, Below w9.heap.size w9 v → Below B W v))
    {u1 u2 u3 u4 u5 u6 u8 u9 u10 u11 u12 u13 u14 u15 u16 u17 u18 u19 u20 u21 u22 u23 u24 u25 u26 u27 u28 u29 u30 u31 u32 u33 u34 u35 u36 u37 u38 u39 u40 u41 u42 u43 u44 u45 u46 u47 u48 u49 u50 u51 u52 u53 u54 u55 u56 u57 u58 u59 u60 u61 u62 u63 u64 u65 u66 u67 u68 u69 u70 u71 u72 u73 u74 u75 u76 u77 u78 u79 u80 u81 u82 u83 u84 u85 u86 u87 u88 u89 u90 u91 u92 u93 u94 u95 u96 u97 u101 u102 u103 u104 u105 u106 u107 u108 u109 u110 u111 u112 u113 u114 u115 u116 u117 u118 u119 u120 u121 u122 u123 u124 u125 u126 u127 u128 u129 u130 u131 u132 u133 u134 u135 u136 u137 u138 u139 u140 u141 u142 u143 u144 u145 u146 u147 u148 u149 u150 u151 u152 u153 u154 u155 u156 u157 u158 u159 u160 u161 u162 u163 u164 u165 u166 u167 u168 u169 u170 u171 u172 u173 u174 u175 u176 u177 u178 u179 u180 u181 u182 u183 u184 u185 u186 u187 u188 u189 u190 u191 u192 u193 u194 u195 u196 u197 u198 u199 u200 u201 u202 u203 u204 u205 u206 u207 u208 u209 u210 u211 u212 u213 u214 u215 u216 u217 u218 u219 : Value}
    (hQ : Aside (∀ (v4 v15 v16 v17 v18 v100 v101 v102 v103 v104 v105 v106 v107 v108 v109 v110 v111 v112 v113 v114 v115 v116 v117 v118 v119 v120 v121 v122 v123 v124 v125 v126 v127 v128 v129 v130 v131 v132 v133 v134 v135 v136 v137 v138 v139 v140 v141 v142 v143 v144 v145 v146 v147 v148 v149 v150 v151 v152 v153 v154 v155 v156 v157 v158 v159 v160 v161 v162 v163 v164 v165 v166 v167 v168 v169 v170 v171 v172 v173 v174 v175 v176 v177 v178 v179 v180 v181 v182 v183 v184 v185 v186 v187 v188 v189 v190 v191 v192 v193 v194 v195 v196 v197 v198 v199 v200 v201 v202 v203 v204 v205 : Value) (wx : World), Below w9.heap.size w9 wx → Q .normal { tmps := #[.slice (some ⟨b, off, none⟩) n cap, u1, u2, u3, v4, u5, u6, .slice (some ⟨b, off, none⟩) m cap, u8, u9, u10, u11, u12, u13, u14, v15, v16, v17, v18, u19, u20, u21, u22, u23, u24, u25, u26, u27, u28, u29, u30, u31, u32, u33, u34, u35, u36, u37, u38, u39, u40, u41, u42, u43, u44, u45, u46, u47, u48, u49, u50, u51, u52, u53, u54, u55, u56, u57, u58, u59, u60, u61, u62, u63, u64, u65, u66, u67, u68, u69, u70, u71, u72, u73, u74, u75, u76, u77, u78, u79, u80, u81, u82, u83, u84, u85, u86, u87, u88, u89, u90, u91, u92, u93, u94, u95, u96, u97, .slice (some ⟨b, off, none⟩) m cap, .int .i64 m, v100, v101, v102, v103, v104, v105, v106, v107, v108, v109, v110, v111, v112, v113, v114, v115, v116, v117, v118, v119, v120, v121, v122, v123, v124, v125, v126, v127, v128, v129, v130, v131, v132, v133, v134, v135, v136, v137, v138, v139, v140, v141, v142, v143, v144, v145, v146, v147, v148, v149, v150, v151, v152, v153, v154, v155, v156, v157, v158, v159, v160, v161, v162, v163, v164, v165, v166, v167, v168, v169, v170, v171, v172, v173, v174, v175, v176, v177, v178, v179, v180, v181, v182, v183, v184, v185, v186, v187, v188, v189, v190, v191, v192, v193, v194, v195, v196, v197, v198, v199, v200, v201, v202, v203, v204, v205, u206, u207, u208, u209, u210, u211, u212, u213, u214, u215, u216, u217, u218, u219], defers := [] } wx)) :
    code.wp Tryz.prog Q { tmps := #[.slice (some ⟨b, off, none⟩) n cap, u1, u2, u3, u4, u5, u6, .slice (some ⟨b, off, none⟩) m cap, u8, u9, u10, u11, u12, u13, u14, u15, u16, u17, u18, u19, u20, u21, u22, u23, u24, u25, u26, u27, u28, u29, u30, u31, u32, u33, u34, u35, u36, u37, u38, u39, u40, u41, u42, u43, u44, u45, u46, u47, u48, u49, u50, u51, u52, u53, u54, u55, u56, u57, u58, u59, u60, u61, u62, u63, u64, u65, u66, u67, u68, u69, u70, u71, u72, u73, u74, u75, u76, u77, u78, u79, u80, u81, u82, u83, u84, u85, u86, u87, u88, u89, u90, u91, u92, u93, u94, u95, u96, u97, .slice (some ⟨b, off, none⟩) m cap, .int .i64 m, .int .i64 0, u101, u102, u103, u104, u105, u106, u107, u108, u109, u110, u111, u112, u113, u114, u115, u116, u117, u118, u119, u120, u121, u122, u123, u124, u125, u126, u127, u128, u129, u130, u131, u132, u133, u134, u135, u136, u137, u138, u139, u140, u141, u142, u143, u144, u145, u146, u147, u148, u149, u150, u151, u152, u153, u154, u155, u156, u157, u158, u159, u160, u161, u162, u163, u164, u165, u166, u167, u168, u169, u170, u171, u172, u173, u174, u175, u176, u177, u178, u179, u180, u181, u182, u183, u184, u185, u186, u187, u188, u189, u190, u191, u192, u193, u194, u195, u196, u197, u198, u199, u200, u201, u202, u203, u204, u205, u206, u207, u208, u209, u210, u211, u212, u213, u214, u215, u216, u217, u218, u219], defers := [] } w9 := by
  obtain rfl := Option.some.inj hcode
  clear hcode
  dsimp only at hQ ⊢
  go_wp2
  go_loopg [100] m (fun gh i wx => ∃ (i2 : Nat), i2 ≤ m ∧ gh = m - i2 ∧ i = .int .i64 i2 ∧ Below w9.heap.size w9 wx)
  case atStart => exact ⟨0, Nat.zero_le _, rfl, rfl, Below.refl _ _⟩
  case round =>
    obtain ⟨i2, hi2, rfl, rfl, b9⟩ := hrel
    by_cases hi : i2 < m
    · obtain ⟨e, he⟩ : ∃ e, l[i2]? = some e := ⟨_, List.getElem?_eq_getElem (by have := HN.out; omega)⟩
      obtain ⟨d0, d1, d2, d3, d4, d5⟩ := CELL.out (KEEP.out b9) he
      have hAN := aside_of (HAN.out hi he)
      have EV := EvBlk.new wr e
      have b10 : Below w9.heap.size w9 (wr.alloc (.cells #[.int .u64 e.step, .int .i64 e.thread, .int .i64 e.kind, .int .i64 e.op, .int .u64 e.id, .int .i64 e.err] 34)) := b9.alloc b9.size _
      have hii : (i2 : Int) < (m : Int) := by omega
      have hin : i2 < n := by omega
      clear he b9
      generalize hZ : wr.heap.size = Z at EV
      have e2 := EV.q2
      go_upto_if 107 with fail
      clear d0 d1 d2 d3 d4 d5 e2
      generalize wr.alloc (.cells #[.int .u64 e.step, .int .i64 e.thread, .int .i64 e.kind, .int .i64 e.op, .int .u64 e.id, .int .i64 e.err] 34) = v0 at EV b10 ⊢
      by_cases k2 : e.kind = 2
      · have k2' : (e.kind == 2) = true := by simpa using k2
        obtain ⟨p, q, hsc, h1, h2, h3, h4, h5⟩ := hAN.out k2
        have SC0 := aside_of hsc
        have HPQ := aside_of (⟨h1, h2, h3, h4, h5⟩ : p.id = e.id ∧ p.err = e.err ∧ p.op = e.op ∧ q.op = e.op ∧ q.step ≤ e.step)
        clear k2 hAN hsc h1 h2 h3 h4 h5
        go_wp2
        rename (e.kind != 2) = false => hbr
        clear k2' hbr
        go_loopg [17, 18] (i2 + 1) (fun gh v17 v18 wx => ∃ (jn : Nat) (z pts : Int) (ps : List Ev), jn ≤ i2 ∧ gh = jn + 1 ∧ z + 1 = (jn : Int) ∧ v18 = .int .i64 z ∧ v17 = .int .i64 pts ∧ Aside (scan e.thread (l.take jn).reverse = (ps, some q)) ∧ ((ps = [p] ∧ pts = 0) ∨ (ps = [] ∧ pts = 1)) ∧ Below v0.heap.size v0 wx)
        case atStart => exact ⟨i2, (i2 : Int) - 1, 0, [p], Nat.le_refl _, rfl, by omega, by go_num, rfl, SC0, .inl ⟨rfl, rfl⟩, Below.refl _ _⟩
        case round =>
          clear SC0
          obtain ⟨jn, z, pts, ps, hjn, rfl, hz, rfl, rfl, SC, hps, b0⟩ := hrel
          cases jn with
          | zero => have h := SC.out; simp [scan] at h
          | succ j =>
            obtain rfl : z = (j : Int) := by omega
            clear hz
            obtain ⟨y, hy⟩ : ∃ y, l[j]? = some y := ⟨_, List.getElem?_eq_getElem (by have := HN.out; omega)⟩
            have hrev : (l.take (j + 1)).reverse = y :: (l.take j).reverse := by
              rw [List.take_add_one, hy, List.reverse_append]; rfl
            have hsc := SC.out
            rw [hrev] at hsc
            have b11 : Below w9.heap.size w9 wr := b10.trans (b0.mono b10.size)
            have HY := aside_of hy
            obtain ⟨c0, c1, c2, c3, c4, c5⟩ := CELL.out (KEEP.out b11) HY.out
            have EV2 := EV.below b0 EV.lt
            have e0 := EV2.q0
            have e1 := EV2.q1
            have e3 := EV2.q3
            have e4 := EV2.q4
            have e5 := EV2.q5
            have hjm : j < m := by omega
            have hji : (j : Int) < (m : Int) := by omega
            have hj0 : ¬ (j : Int) < 0 := by omega
            clear hrev hy SC
            by_cases hA : y.thread = e.thread
            · have hA' : (y.thread == e.thread) = true := by simpa using hA
              by_cases hK : y.kind = 0
              · have hK' : (y.kind == 0) = true := by simpa using hK
                rw [scan, if_pos ⟨hA, hK⟩] at hsc
                simp only [Prod.mk.injEq, Option.some.injEq] at hsc
                obtain ⟨rfl, rfl⟩ := hsc
                obtain ⟨_, rfl⟩ : ([] : List Ev) = [] ∧ pts = 1 := by
                  rcases hps with ⟨h, _⟩ | h
                  · cases h
                  · exact h
                have g1 : (y.op != e.op) = false := by simpa using HPQ.out.2.2.2.1
                have g2 : ¬ e.step < y.step := by have := HPQ.out.2.2.2.2; omega
                clear hps hA hK
                go_upto_region 29 with fail
                go_big_quiet (fail)
                go_upto_region 35 with fail
                go_big_quiet (fail)
                go_wp2_with fail
                go_roundg (m - (i2 + 1))
                case measure => omega
                case rel => exact ⟨i2 + 1, by omega, rfl, by go_num, by first | exact below_drewN b11 _ | exact below_drewN (below_drewN b11 _) _⟩
              · have hK' : (y.kind == 0) = false := by simpa using hK
                rw [scan, if_neg (fun h => hK h.2)] at hsc
                by_cases hP : y.kind = 1
                · have hP' : (y.kind == 1) = true := by simpa using hP
                  rw [if_pos ⟨hA, hP⟩] at hsc
                  simp only [Prod.mk.injEq] at hsc
                  obtain ⟨hs1, hs2⟩ := hsc
                  obtain ⟨rfl, rfl⟩ : ps = [p] ∧ pts = 0 := by
                    rcases hps with h | ⟨h, _⟩
                    · exact h
                    · rw [h] at hs1; cases hs1
                  simp only [List.cons.injEq] at hs1
                  obtain ⟨rfl, hs3⟩ := hs1
                  have SC2 : Aside (scan e.thread (l.take j).reverse = ([], some q)) := aside_of (Prod.ext hs3 hs2)
                  have g1 : (y.id != e.id) = false := by simpa using HPQ.out.1
                  have g2 : (y.err != e.err) = false := by simpa using HPQ.out.2.1
                  have g3 : (y.op != e.op) = false := by simpa using HPQ.out.2.2.1
                  clear hps hA hK hP hs2 hs3
                  go_upto_region 29 with fail
                  go_big_quiet (fail)
                  go_upto_region 31 with fail
                  go_big_quiet (fail)
                  go_upto_region 33 with fail
                  go_big_quiet (fail)
                  go_wp2_with fail
                  go_roundg (j + 1)
                  case measure => omega
                  case rel => exact ⟨j, (j : Int) - 1, 1, [], by omega, rfl, by omega, by go_num, rfl, SC2, .inr ⟨rfl, rfl⟩, by first | exact below_drewN b0 _ | exact below_drewN (below_drewN b0 _) _ | exact below_drewN (below_drewN (below_drewN b0 _) _) _⟩
                · have hP' : (y.kind == 1) = false := by simpa using hP
                  rw [if_neg (fun h => hP h.2)] at hsc
                  have SC2 : Aside (scan e.thread (l.take j).reverse = (ps, some q)) := aside_of hsc
                  clear hA hK hP hsc
                  go_upto_region 29 with fail
                  go_big_quiet (fail)
                  go_upto_region 31 with fail
                  go_big_quiet (fail)
                  go_wp2_with fail
                  go_roundg (j + 1)
                  case measure => omega
                  case rel => exact ⟨j, (j : Int) - 1, pts, ps, by omega, rfl, by omega, by go_num, rfl, SC2, hps, by first | exact below_drewN b0 _ | exact below_drewN (below_drewN b0 _) _ | exact below_drewN (below_drewN (below_drewN b0 _) _) _⟩
            · have hA' : (y.thread == e.thread) = false := by simpa using hA
              rw [scan_other hA] at hsc
              have SC2 : Aside (scan e.thread (l.take j).reverse = (ps, some q)) := aside_of hsc
              clear hA hsc
              go_upto_region 29 with fail
              go_big_quiet (fail)
              go_upto_region 31 with fail
              go_big_quiet (fail)
              go_wp2_with fail
              go_roundg (j + 1)
              case measure => omega
              case rel => exact ⟨j, (j : Int) - 1, pts, ps, by omega, rfl, by omega, by go_num, rfl, SC2, hps, by first | exact below_drewN b0 _ | exact below_drewN (below_drewN b0 _) _ | exact below_drewN (below_drewN (below_drewN b0 _) _) _⟩
      · have k2' : (e.kind == 2) = false := by simpa using k2
        clear k2
        go_wp2
        go_roundg (m - (i2 + 1))
        case measure => omega
        case rel => exact ⟨i2 + 1, by omega, rfl, by go_num, b10⟩
    · obtain rfl : i2 = m := by omega
      go_wp2
      apply hQ.out
      exact b9

end Go.Proofs.YtigdkcpipiimnaaGreatDoor
