/- The law's inner loops. Conditions: how the book lies in memory. -/
import Derived.Test.YtbdnlaepeladbaaGreatDoorBkC
import Derived.Deep.CutBlock
namespace Go.Proofs.YtbdnlaepeladbaaGreatDoor
open Go.ChangeShapes Go.WideShapes Go.ChangeAt Go.RowKit Go.Eng

variable {w w' : World} {b ml mm wl mt : Nat} {B : BK} {tm : List (Int × Int)}

/-- A block within a code. -/
def _root_.Go.Code.blk (k : Nat) : Code → Option Code
  | .block id c => if id = k then some (.block id c) else c.blk k
  | .seq a b => match a.blk k with
    | some x => some x
    | none => b.blk k
  | .cond _ a b => match a.blk k with
    | some x => some x
    | none => b.blk k
  | .loop c => c.blk k
  | .scope c => c.blk k
  | _ => none

theorem held_mem {ls : List (Int × Le)} (hk : Keys1 ls) {t : Int} {R : List Int} (h : R.Perm ((ls.filter fun x => x.2.thread == t).map (·.1))) {j : Nat} {id : Int} (hj : R[j]? = some id) : ∃ x, aget id ls = some x ∧ x.thread = t := by
  have hm : id ∈ (ls.filter fun x => x.2.thread == t).map (·.1) := h.mem_iff.1 (List.mem_of_getElem? hj)
  obtain ⟨p, hp, rfl⟩ := List.mem_map.1 hm
  obtain ⟨h1, h2⟩ := List.mem_filter.1 hp
  exact ⟨p.2, Keys1.get hk h1, by simpa using h2⟩

set_option maxHeartbeats 4000000 in
set_option maxRecDepth 1000000 in
theorem loop5 (code : Code) (hcode : (Tryz.f3.body.bind (Code.blk 5)) = some code) (Q : Exit → Act → World → Prop) (W : World)
    (hS : SortedLs) (h : BkAt W b ml mm wl mt B) (hl : B.ls.length ≤ 1000) (hwf : ∀ p ∈ B.ls, (Lit.int .u64 p.1).wf = true)
    {u0 u1 u2 u3 u4 u6 u7 u8 u9 u10 u11 u12 u13 u15 u16 u17 u18 u19 u20 u21 u22 u23 u24 u25 u26 u27 u28 u29 u30 u31 u32 u33 u34 u35 u36 u37 u38 u39 u40 u41 u42 u43 u44 u45 u46 u47 u48 u49 u50 u51 u52 u53 u54 u55 u56 u57 u58 u59 u60 u61 u62 u63 u64 u65 u66 u67 u68 u69 u70 u71 u72 u73 u74 u75 u76 u77 u78 u79 u80 u81 u82 u83 u84 u85 u86 u87 u88 u89 u90 u91 u92 u93 u94 u95 u96 u97 u98 u99 u100 u101 u102 u103 u104 u105 u106 u107 u108 u109 u110 u111 u112 u113 u114 u115 u116 u117 u118 u119 u120 u121 u122 u123 u124 u125 u126 u127 u128 u130 u131 u132 u133 u134 u135 u136 u137 u138 u139 u140 u141 u142 u143 u144 u145 u146 u147 u148 u149 u150 u151 u152 u153 u154 u155 u156 u157 u158 u159 u160 u161 u162 u163 u164 u165 u166 u167 u168 u169 u170 u171 u172 u173 u174 u175 u176 u177 u178 u179 u180 u181 u182 u183 u184 u185 : Value}
    (hQ : Aside (∀ (v4 v15 v17 v18 v19 v129 v130 v131 v132 v133 v134 v135 v136 v137 v138 v139 v140 v141 v142 v143 v144 v145 v146 v147 v148 v149 v150 v151 v152 v153 v154 v155 v156 : Value) (wx : World), Below W.heap.size W wx → Q .normal { tmps := #[u0, u1, u2, u3, v4, .pointer (some ⟨b, 0, none⟩), u6, u7, u8, u9, u10, u11, u12, u13, .int .i64 (cntN B.ls 8 : Nat), v15, u16, v17, v18, v19, u20, u21, u22, u23, u24, u25, u26, u27, u28, u29, u30, u31, u32, u33, u34, u35, u36, u37, u38, u39, u40, u41, u42, u43, u44, u45, u46, u47, u48, u49, u50, u51, u52, u53, u54, u55, u56, u57, u58, u59, u60, u61, u62, u63, u64, u65, u66, u67, u68, u69, u70, u71, u72, u73, u74, u75, u76, u77, u78, u79, u80, u81, u82, u83, u84, u85, u86, u87, u88, u89, u90, u91, u92, u93, u94, u95, u96, u97, u98, u99, u100, u101, u102, u103, u104, u105, u106, u107, u108, u109, u110, u111, u112, u113, u114, u115, u116, u117, u118, u119, u120, u121, u122, u123, u124, u125, u126, u127, u128, v129, v130, v131, v132, v133, v134, v135, v136, v137, v138, v139, v140, v141, v142, v143, v144, v145, v146, v147, v148, v149, v150, v151, v152, v153, v154, v155, v156, u157, u158, u159, u160, u161, u162, u163, u164, u165, u166, u167, u168, u169, u170, u171, u172, u173, u174, u175, u176, u177, u178, u179, u180, u181, u182, u183, u184, u185], defers := [] } wx)) :
    code.wp Tryz.prog Q { tmps := #[u0, u1, u2, u3, u4, .pointer (some ⟨b, 0, none⟩), u6, u7, u8, u9, u10, u11, u12, u13, .int .i64 0, u15, u16, u17, u18, u19, u20, u21, u22, u23, u24, u25, u26, u27, u28, u29, u30, u31, u32, u33, u34, u35, u36, u37, u38, u39, u40, u41, u42, u43, u44, u45, u46, u47, u48, u49, u50, u51, u52, u53, u54, u55, u56, u57, u58, u59, u60, u61, u62, u63, u64, u65, u66, u67, u68, u69, u70, u71, u72, u73, u74, u75, u76, u77, u78, u79, u80, u81, u82, u83, u84, u85, u86, u87, u88, u89, u90, u91, u92, u93, u94, u95, u96, u97, u98, u99, u100, u101, u102, u103, u104, u105, u106, u107, u108, u109, u110, u111, u112, u113, u114, u115, u116, u117, u118, u119, u120, u121, u122, u123, u124, u125, u126, u127, u128, .int .i64 0, u130, u131, u132, u133, u134, u135, u136, u137, u138, u139, u140, u141, u142, u143, u144, u145, u146, u147, u148, u149, u150, u151, u152, u153, u154, u155, u156, u157, u158, u159, u160, u161, u162, u163, u164, u165, u166, u167, u168, u169, u170, u171, u172, u173, u174, u175, u176, u177, u178, u179, u180, u181, u182, u183, u184, u185], defers := [] } W := by
  obtain rfl := Option.some.inj hcode
  clear hcode
  dsimp only at hQ ⊢
  have H0 := aside_of (And.intro hS (And.intro h (And.intro hl hwf)))
  have hcl : ∀ t : Nat, cntN B.ls t ≤ 1000 := fun t => Nat.le_trans (List.length_filter_le _ _) hl
  have HC := aside_of hcl
  clear hS h hl hwf hcl
  go_wp2
  go_loopg [14, 129] 8 (fun gh v14 v129 wx => ∃ t : Nat, t ≤ 8 ∧ gh = 8 - t ∧ v129 = .int .i64 t ∧ v14 = .int .i64 (cntN B.ls t : Nat) ∧ Below W.heap.size W wx)
  case atStart => exact ⟨0, by omega, rfl, rfl, by rw [cntN_zero]; rfl, Below.refl _ _⟩
  case round =>
    obtain ⟨t, ht, rfl, rfl, rfl, b1⟩ := hrel
    by_cases htn : t < 8
    · have htn' : (t : Int) < 8 := by omega
      have hh := heldB_calls H0.out.1 (H0.out.2.1.below b1) H0.out.2.2.1 H0.out.2.2.2 t
      have hcs := cntN_succ B.ls t
      have hct := HC.out t
      have hct1 := HC.out (t + 1)
      have HB := aside_of b1
      clear b1
      generalize cntN B.ls t = z at hcs hct
      go_upto_block 7 with (go_at_call 16; with_reducible refine hh.mono ?_; clear hh; rintro e w2 ⟨a, cap, R, he, hR, hI, b2⟩; subst he)
      have hRl : R.length = heldN B.ls t := by rw [hR.perm.length_eq, List.length_map]; rfl
      have HM : Aside (∀ {j : Nat} {id : Int}, R[j]? = some id → ∃ x, aget id B.ls = some x ∧ x.thread = (t : Int)) := aside_of fun hj => held_mem H0.out.2.1.kl hR.perm hj
      have HI := aside_of hI
      have HB2 := aside_of b2
      have hzz : z + R.length ≤ 1000 := by omega
      have HZ := aside_of (hRl ▸ hcs : cntN B.ls (t + 1) = z + R.length)
      clear hcs hct hct1 hRl hR hI b2
      generalize hn : R.length = n at hzz HZ
      have HN := aside_of hn
      clear hn
      go_wp2
      go_loopg [14, 136] n (fun gh v14 v136 wx => ∃ j : Nat, j ≤ n ∧ gh = n - j ∧ v136 = .int .i64 j ∧ v14 = .int .i64 (z + j : Nat) ∧ Below w2.heap.size w2 wx)
      case atStart => exact ⟨0, by omega, rfl, rfl, rfl, Below.refl _ _⟩
      case round =>
        obtain ⟨j, hj, rfl, rfl, rfl, b3⟩ := hrel
        have BB : Below W.heap.size W w2 := HB.out.trans (HB2.out.mono HB.out.size)
        by_cases hjn : j < n
        · obtain ⟨id, hid⟩ : ∃ id, R[j]? = some id := ⟨_, List.getElem?_eq_getElem (by have := HN.out; omega)⟩
          obtain ⟨x, hx1, hx2⟩ := HM.out hid
          obtain ⟨p, o, rfl, hc⟩ := (HI.out.upto (Upto.of_below (S := fun _ => False) b3) (by rintro k ⟨⟩)).cell j id hid
          have hB2 := H0.out.2.1.below (BB.trans (b3.mono BB.size))
          have hh := holder_calls hB2 id
          rw [hx1] at hh
          simp only [Option.getD_some, Option.isSome_some] at hh
          obtain ⟨x0, x1, x2⟩ := x
          simp only at hx2 hh
          subst hx2
          have hjn' : (j : Int) < (n : Int) := by omega
          have HB3 := aside_of b3
          clear hx1 hB2 hid b3
          go_wp2_with (go_at_call 10; with_reducible refine hh.mono ?_; clear hh; rintro e w4 ⟨he, b4⟩; subst he)
          go_roundg (n - (j + 1))
          case measure => omega
          case rel => exact ⟨j + 1, by omega, rfl, by go_num, by go_num, HB3.out.trans (b4.mono HB3.out.size)⟩
        · obtain rfl : j = n := by omega
          have HB4 := aside_of (BB.trans (b3.mono BB.size))
          clear BB b3
          go_wp2
          go_roundg (8 - (t + 1))
          case measure => omega
          case rel => exact ⟨t + 1, by omega, rfl, by go_num, by rw [HZ.out], HB4.out⟩
    · obtain rfl : t = 8 := by omega
      go_wp2
      apply hQ.out
      exact b1

end Go.Proofs.YtbdnlaepeladbaaGreatDoor

namespace Go.Proofs.YtbdnlaepeladbaaGreatDoor
open Go.ChangeShapes Go.WideShapes Go.ChangeAt Go.RowKit Go.Eng

variable {w w' : World} {b ml mm wl mt : Nat} {B : BK} {tm : List (Int × Int)}

set_option maxHeartbeats 4000000 in
set_option maxRecDepth 1000000 in
theorem loop3 (code : Code) (hcode : (Tryz.f3.body.bind (Code.blk 3)) = some code) (Q : Exit → Act → World → Prop) (W : World)
    (lk now : Int) (hlk : 0 ≤ lk ∧ lk ≤ 576460752303423488) (X : Nat) (hX : W.cell? ⟨X, 3, none⟩ = some (.int .u64 now)) (a : Option Addr) (n cap : Nat) (D : List Int) (hn : Aside (D.length = n)) (hn2 : n ≤ 1024) (hI : IdsAt W a D)
    (h : BkAt W b ml mm wl mt B)
    (HD : Aside (∀ id ∈ D, ∃ x, aget id B.ls = some x ∧ 0 ≤ x.since ∧ x.since ≤ 576460752303423488 ∧ ¬ lk = 0 ∧ ¬ now < x.since + lk))
    {u1 u2 u3 u4 u6 u8 u9 u10 u11 u12 u13 u14 u15 u16 u17 u18 u19 u20 u21 u22 u23 u24 u25 u26 u27 u28 u29 u30 u31 u32 u33 u34 u35 u36 u37 u38 u39 u40 u41 u42 u43 u44 u45 u46 u47 u48 u49 u50 u51 u52 u53 u54 u55 u56 u57 u58 u59 u60 u61 u62 u63 u64 u65 u66 u67 u68 u69 u70 u71 u72 u73 u74 u75 u76 u77 u78 u79 u80 u81 u82 u83 u84 u85 u86 u87 u88 u89 u90 u91 u92 u93 u94 u95 u96 u97 u98 u99 u100 u101 u105 u106 u107 u108 u109 u110 u111 u112 u113 u114 u115 u116 u117 u118 u119 u120 u121 u122 u123 u124 u125 u126 u127 u128 u129 u130 u131 u132 u133 u134 u135 u136 u137 u138 u139 u140 u141 u142 u143 u144 u145 u146 u147 u148 u149 u150 u151 u152 u153 u154 u155 u156 u157 u158 u159 u160 u161 u162 u163 u164 u165 u166 u167 u168 u169 u170 u171 u172 u173 u174 u175 u176 u177 u178 u179 u180 u181 u182 u183 u184 u185 : Value}
    (hQ : Aside (∀ (v4 v11 v12 v13 v104 v105 v106 v107 v108 v109 v110 v111 v112 v113 v114 v115 v116 v117 v118 v119 v120 v121 v122 v123 v124 v125 v126 v127 v128 : Value) (wx : World), Below W.heap.size W wx → Q .normal { tmps := #[.int .u64 lk, u1, u2, u3, v4, .pointer (some ⟨b, 0, none⟩), u6, .pointer (some ⟨X, 0, none⟩), u8, u9, u10, v11, v12, v13, u14, u15, u16, u17, u18, u19, u20, u21, u22, u23, u24, u25, u26, u27, u28, u29, u30, u31, u32, u33, u34, u35, u36, u37, u38, u39, u40, u41, u42, u43, u44, u45, u46, u47, u48, u49, u50, u51, u52, u53, u54, u55, u56, u57, u58, u59, u60, u61, u62, u63, u64, u65, u66, u67, u68, u69, u70, u71, u72, u73, u74, u75, u76, u77, u78, u79, u80, u81, u82, u83, u84, u85, u86, u87, u88, u89, u90, u91, u92, u93, u94, u95, u96, u97, u98, u99, u100, u101, .slice a n cap, .int .i64 n, v104, v105, v106, v107, v108, v109, v110, v111, v112, v113, v114, v115, v116, v117, v118, v119, v120, v121, v122, v123, v124, v125, v126, v127, v128, u129, u130, u131, u132, u133, u134, u135, u136, u137, u138, u139, u140, u141, u142, u143, u144, u145, u146, u147, u148, u149, u150, u151, u152, u153, u154, u155, u156, u157, u158, u159, u160, u161, u162, u163, u164, u165, u166, u167, u168, u169, u170, u171, u172, u173, u174, u175, u176, u177, u178, u179, u180, u181, u182, u183, u184, u185], defers := [] } wx)) :
    code.wp Tryz.prog Q { tmps := #[.int .u64 lk, u1, u2, u3, u4, .pointer (some ⟨b, 0, none⟩), u6, .pointer (some ⟨X, 0, none⟩), u8, u9, u10, u11, u12, u13, u14, u15, u16, u17, u18, u19, u20, u21, u22, u23, u24, u25, u26, u27, u28, u29, u30, u31, u32, u33, u34, u35, u36, u37, u38, u39, u40, u41, u42, u43, u44, u45, u46, u47, u48, u49, u50, u51, u52, u53, u54, u55, u56, u57, u58, u59, u60, u61, u62, u63, u64, u65, u66, u67, u68, u69, u70, u71, u72, u73, u74, u75, u76, u77, u78, u79, u80, u81, u82, u83, u84, u85, u86, u87, u88, u89, u90, u91, u92, u93, u94, u95, u96, u97, u98, u99, u100, u101, .slice a n cap, .int .i64 n, .int .i64 0, u105, u106, u107, u108, u109, u110, u111, u112, u113, u114, u115, u116, u117, u118, u119, u120, u121, u122, u123, u124, u125, u126, u127, u128, u129, u130, u131, u132, u133, u134, u135, u136, u137, u138, u139, u140, u141, u142, u143, u144, u145, u146, u147, u148, u149, u150, u151, u152, u153, u154, u155, u156, u157, u158, u159, u160, u161, u162, u163, u164, u165, u166, u167, u168, u169, u170, u171, u172, u173, u174, u175, u176, u177, u178, u179, u180, u181, u182, u183, u184, u185], defers := [] } W := by
  obtain rfl := Option.some.inj hcode
  clear hcode
  dsimp only at hQ ⊢
  have H0 := aside_of (And.intro h (And.intro hI hX))
  obtain ⟨hl0, hl1⟩ := hlk
  clear h hI hX
  go_wp2
  go_loopg [104] n (fun gh v104 wx => ∃ j : Nat, j ≤ n ∧ gh = n - j ∧ v104 = .int .i64 j ∧ Below W.heap.size W wx)
  case atStart => exact ⟨0, by omega, rfl, rfl, Below.refl _ _⟩
  case round =>
    obtain ⟨j, hj, rfl, rfl, b1⟩ := hrel
    by_cases hjn : j < n
    · obtain ⟨id, hid⟩ : ∃ id, D[j]? = some id := ⟨_, List.getElem?_eq_getElem (by have := hn.out; omega)⟩
      obtain ⟨x, hx1, hx2, hx3, hx4, hx5⟩ := HD.out id (List.mem_of_getElem? hid)
      obtain ⟨p, o, rfl, hc⟩ := (H0.out.2.1.upto (Upto.of_below (S := fun _ => False) b1) (by rintro k ⟨⟩)).cell j id hid
      have hB := H0.out.1.below b1
      have hs := since_calls hB id
      rw [hx1] at hs
      simp only [Option.getD_some, Option.isSome_some] at hs
      obtain ⟨x0, x1, x2⟩ := x
      simp only at hx2 hx3 hx5 hs
      have hjn' : (j : Int) < (n : Int) := by omega
      have hX1 := cell_below b1 H0.out.2.2
      have HB := aside_of b1
      have hlk' : (lk == 0) = false := by simpa using hx4
      clear hx1 hB hid b1 hx4
      go_wp2_with (go_at_call 14; with_reducible refine hs.mono ?_; clear hs; rintro e w4 ⟨he, b4⟩; subst he; have hX2 := cell_below b4 hX1)
      go_roundg (n - (j + 1))
      case measure => omega
      case rel => exact ⟨j + 1, by omega, rfl, by go_num, HB.out.trans (b4.mono HB.out.size)⟩
    · obtain rfl : j = n := by omega
      go_wp2
      apply hQ.out
      exact b1

end Go.Proofs.YtbdnlaepeladbaaGreatDoor
