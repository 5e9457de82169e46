/- The law's walk, at whatever events. Conditions: how the argument lies in memory; that the example is found true. -/
import Derived.Test.YtigdkcpipiimnaaGreatDoorLaB
import Derived.Test.YtigdkcpipiimnaaGreatDoorLaA
import Derived.Deep.CutBlock
namespace Go.Proofs.YtigdkcpipiimnaaGreatDoor
open Go.ChangeShapes Go.WideShapes Go.ChangeAt Go.RowKit Go.Eng Go.Deep

variable {w v v' w' : World} {C E wm : Nat} {lm rm : Option Nat} {c : CK} {e : Ev} {s : AuS}

set_option maxHeartbeats 4000000 in
set_option maxRecDepth 1000000 in
theorem law_some (W : World) (B : Nat) (hB : B = W.heap.size) (haw : Calls Tryz.prog 5 #[] W fun e w' => e = .returned (.bool true) ∧ Below B W w') (b off n cap : Nat) (x : Int) (l : List Ev) (hn : n = l.length) (hm : n ≤ 100) (hcap : n ≤ cap) (hb : b < B)
    (hl : EvsAt W b off l) (hx0 : 0 ≤ x) (hx1 : x < 256) :
    Calls Tryz.prog 3 #[.slice (some ⟨b, off, none⟩) n cap, .int .u8 x] W fun e w' => e = .returned (.bool true) ∧ Below B W w' := by
  have hBl : B ≤ W.heap.size := Nat.le_of_eq hB
  have SL : Aside (∀ {v : World} {k : Nat}, k ≤ n → Below B W v → EvSl v (.slice (some ⟨b, off, none⟩) k cap) (l.take k)) := aside_of fun hk hv => sl_take hl hb hn hm hcap hk hv hBl
  have CELL : Aside (∀ {v : World} {k : Nat} {e : Ev}, Below B W v → l[k]? = some e → EvCells v b (off + k * 6) e) := aside_of fun hv he => EvCells.below (hl _ _ he) hv hb
  have hle := (CK.run_le l CK.zero).1
  have hc0 := (CK.run_le l CK.zero).2
  have HAN : Aside (∀ {i : Nat} {e : Ev}, i < (CK.zero.run l).2.1 → l[i]? = some e → e.kind = 2 → ∃ p q, scan e.thread (l.take i).reverse = ([p], some q) ∧ p.id = e.id ∧ p.err = e.err ∧ p.op = e.op ∧ q.op = e.op ∧ q.step ≤ e.step) := aside_of fun hi he hk => CK.answers l hi he hk
  have hRT : ∀ k, k ≤ (CK.zero.run l).2.1 → (CK.zero.run (l.take k)).2 = (k, 0) := fun k hk => CK.run_take l CK.zero k hk
  have hRP := replays_take (l := l)
  have hMM := mk_marks (l := l) (Nat.le_refl _)
  have hfull : l.take n = l := by rw [hn, List.take_length]
  obtain ⟨r, hr⟩ : ∃ r, CK.zero.run l = r := ⟨_, rfl⟩
  have HR : Aside (CK.zero.run l = r) := hr
  have HN : Aside (n = l.length) := hn
  have HFULL : Aside (l.take n = l) := hfull
  rw [hr] at hle hc0 HAN hRT hRP hMM
  obtain ⟨cz, m, f⟩ := r
  simp only at hle hc0 HAN hRT hRP hMM
  rw [← hn] at hle hc0
  have hRTA := aside_of hRT
  have CHK : Aside (∀ {v : World}, Below B W v → Calls Tryz.prog 6 #[.slice (some ⟨b, off, none⟩) n cap] v fun x w' => x = .returned (.tuple #[.int .i64 (m : Nat), .int .i64 f]) ∧ Below v.heap.size v w') := aside_of fun hv => by
    have h1 := SL.out (Nat.le_refl n) hv
    rw [HFULL.out] at h1
    have h2 := check_calls h1
    rw [HR.out] at h2
    exact h2
  have CHKk : Aside (∀ {v : World} {k : Nat}, k ≤ m → Below B W v → Calls Tryz.prog 6 #[.slice (some ⟨b, off, none⟩) k cap] v fun x w' => x = .returned (.tuple #[.int .i64 (k : Nat), .int .i64 0]) ∧ Below v.heap.size v w') := aside_of fun hk hv => by
    have h2 := check_calls (SL.out (Nat.le_trans hk hle) hv)
    rw [hRTA.out _ hk] at h2
    exact h2
  have ORD : Aside (∀ {v : World}, Below B W v → Calls Tryz.prog 7 #[.slice (some ⟨b, off, none⟩) m cap] v fun x w' => ∃ a n c, x = .returned (.slice a n c) ∧ n = (marks (l.take m)).length ∧ (n = 0 ∨ ∃ g, a = some ⟨g, 0, none⟩ ∧ v.heap.size ≤ g ∧ g < w'.heap.size ∧ EvsAt w' g 0 (marks (l.take m))) ∧ Below v.heap.size v w') := aside_of fun hv => by
    have h2 := order_take hl hb (by rw [← HN.out]; exact hm) (by rw [← HN.out]; exact hcap) hv hBl
    rw [HR.out] at h2
    exact h2
  have ENDC : Aside (∀ {v : World}, Below B W v → Calls Tryz.prog 11 #[.slice (some ⟨b, off, none⟩) n cap] v fun x w' => ∃ lm rm, x = .returned (stV lm rm cz.s.c) ∧ StAt w' lm rm cz.s ∧ Below v.heap.size v w') := aside_of fun hv => by
    have h1 := SL.out (Nat.le_refl n) hv
    rw [HFULL.out] at h1
    have h2 := end_calls h1
    rw [HR.out] at h2
    exact h2
  have HRP := aside_of hRP
  have HMM := aside_of hMM
  clear hl hr hn hfull hRT hRP hMM hB HMM
  have hmcap : m ≤ cap := by omega
  go_enter Tryz.func3, Tryz.ntmps3
  go_upto_region 6 with (first
    | (go_at_call 5; with_reducible refine haw.mono ?_; clear haw; rintro e w1 ⟨he, b1⟩; subst he)
    | (go_at_call 6; with_reducible refine (CHK.out b1).mono ?_; clear CHK; rintro e w2 ⟨he, b2⟩; subst he))
  have low2 : Below B W w2 := b1.trans (b2.mono (Nat.le_trans hBl b1.size))
  clear b1 b2
  go_cut [42] (fun s42 wx => s42 = .bool false ∧ Below B W wx)
  case first =>
    have hgt : ¬ (n : Int) < (m : Int) := by omega
    by_cases hf : f = 0
    · obtain rfl := hc0 hf
      subst hf
      go_wp2_with fail
      go_meet
      exact ⟨rfl, low2⟩
    · have hf' : (f == 0) = false := by simpa using hf
      go_wp2_with fail
      go_meet
      exact ⟨rfl, low2⟩
  case rest =>
    obtain ⟨rfl, low3⟩ := hcut
    clear hc0 low2
    obtain ⟨k, hk, hkm⟩ := tmod_nat (m := m) hx0
    go_upto_region 9 with fail
    have hmk : (m : Int) ≤ (cap : Int) := by omega
    go_cut [8] (fun s8 wx => s8 = .int .i64 k ∧ Below B W wx)
    case first =>
      go_wp2_with fail
      go_meet
      exact ⟨rfl, low3⟩
    case rest =>
      obtain ⟨rfl, low4⟩ := hcut
      clear hk hx0 hx1 low3 hmk
      have hkcap : k ≤ cap := by omega
      go_upto_region 14 with (go_at_call 6; with_reducible refine (CHKk.out hkm low4).mono ?_; clear CHKk; rintro e w5 ⟨he, b5⟩; subst he)
      have low5 : Below B W w5 := low4.trans (b5.mono (Nat.le_trans hBl low4.size))
      have s5 := Nat.le_trans hBl low5.size
      clear b5 low4
      have R6 : RowS (w5.alloc (.cells #[.map none, .map none, .bool false] 30)) w5.heap.size none none false := RowS.new w5 none none false
      have low6 : Below B W (w5.alloc (.cells #[.map none, .map none, .bool false] 30)) := low5.alloc s5 _
      generalize w5.alloc (.cells #[.map none, .map none, .bool false] 30) = w6 at R6 low6 ⊢
      have hX : B ≤ w5.heap.size := s5
      generalize w5.heap.size = X at R6 hX ⊢
      clear low5 s5
      have h6 := ORD.out low6
      go_upto_block 0 with (go_at_call 7; with_reducible refine h6.mono ?_; clear h6; rintro e w7 ⟨aO, nO, cO, he, hnO, hO, b7⟩; subst he; have HNO := aside_of hnO; clear hnO)
      have hnO100 : nO ≤ 100 := by
        rw [HNO.out]
        have h1 := List.length_filter_le (fun e => e.kind == 1 || e.kind == 3) (l.take m)
        have h2 : (l.take m).length ≤ m := by rw [List.length_take]; omega
        unfold marks
        omega
      have HO7 : OrdAt w7 X aO nO (marks (l.take m)) := by
        rcases hO with h | ⟨g, h1, h2, h3, h4⟩
        · exact .inl h
        · exact .inr ⟨g, h1, Nat.lt_of_lt_of_le R6.lt h2, h3, h4⟩
      have low7 : Below B W w7 := low6.trans (b7.mono (Nat.le_trans hBl low6.size))
      have R7 := R6.below b7 R6.lt
      have HRP2 : Aside (replay CK.zero.s ((marks (l.take m)).drop 0) = some cz.s) := aside_of (by rw [List.drop_zero]; exact HRP.out)
      clear hO b7 R6 low6 HRP
      refine loopB _ (by rfl) _ W w7 B X m nO cO aO l cz hBl hX hnO100 HNO HRP2 R7 HO7 low7 (aside_of ?_)
      clear R7 HO7 low7 HRP2 HNO hnO100
      intro v4 v13 v14 v68 v69 v70 v71 v72 v73 v74 v75 v76 v77 v78 v79 v80 v81 v82 v83 v84 v85 v86 v87 v88 v89 v90 v91 v92 v93 v94 v95 v96 v97 wx lm rm hI row st low
      have KEEP : Aside (∀ {v : World}, Below wx.heap.size wx v → Below B W v) := aside_of fun hv => low.trans (hv.mono (Nat.le_trans hBl low.size))
      have KEEP2 : Aside (∀ {v : World}, Below wx.heap.size wx v → RowS v X lm rm cz.s.c ∧ StAt v lm rm cz.s) := aside_of fun hv => ⟨row.below hv row.lt, st.below hv⟩
      have HI := aside_of hI
      clear hI row st low
      go_upto_block 2 with fail
      refine loopC _ (by rfl) _ W wx B b off n m cap l hm hle hmcap HN CELL HAN KEEP (aside_of ?_)
      clear CELL HAN
      intro v4 v15 v16 v17 v18 v100 v101 v102 v103 v104 v105 v106 v107 v108 v109 v110 v111 v112 v113 v114 v115 v116 v117 v118 v119 v120 v121 v122 v123 v124 v125 v126 v127 v128 v129 v130 v131 v132 v133 v134 v135 v136 v137 v138 v139 v140 v141 v142 v143 v144 v145 v146 v147 v148 v149 v150 v151 v152 v153 v154 v155 v156 v157 v158 v159 v160 v161 v162 v163 v164 v165 v166 v167 v168 v169 v170 v171 v172 v173 v174 v175 v176 v177 v178 v179 v180 v181 v182 v183 v184 v185 v186 v187 v188 v189 v190 v191 v192 v193 v194 v195 v196 v197 v198 v199 v200 v201 v202 v203 v204 v205 w3 b3
      have row3 := (KEEP2.out b3).1
      have st3 := (KEEP2.out b3).2
      have q0 := row3.q0
      have q1 := row3.q1
      have q2 := row3.q2
      clear row3
      go_wp2_with (first
        | (go_at_call 10; have hh := leases_calls st3 HI.out cz.s.c; with_reducible refine hh.mono ?_; clear hh q0 q1 q2; rintro e w4 ⟨he, b4⟩; subst he; have B4 := b3.trans (b4.mono b3.size); clear st3)
        | (go_at_call 11; have hh := ENDC.out (KEEP.out B4); with_reducible refine hh.mono ?_; clear hh; rintro x w5 ⟨lm5, rm5, hx, st5, b5⟩; subst hx; have B5 := B4.trans (b5.mono B4.size); clear B4)
        | (go_at_call 10; have hh := leases_calls st5 HI.out cz.s.c; with_reducible refine hh.mono ?_; clear hh; rintro e w6 ⟨he, b6⟩; subst he; have B6 := B5.trans (b6.mono B5.size); clear st5 B5; have row6 := (KEEP2.out B6).1; have q0 := row6.q0; have q1 := row6.q1; have q2 := row6.q2)
        | (go_at_call 12; have hh := closed_calls w6 lm rm cz.s.c; with_reducible refine hh.mono ?_; clear hh q0 q1 q2 row6; rintro e w7 ⟨he, b7⟩; subst he; have B7 := B6.trans (b7.mono B6.size); clear B6)
        | (go_at_call 11; have hh := ENDC.out (KEEP.out B7); with_reducible refine hh.mono ?_; clear hh; rintro x w8 ⟨lm8, rm8, hx, st8, b8⟩; subst hx; have B8 := B7.trans (b8.mono B7.size); clear B7)
        | (go_at_call 12; have hh := closed_calls w8 lm8 rm8 cz.s.c; with_reducible refine hh.mono ?_; clear hh; rintro e w9 ⟨he, b9⟩; subst he; have B9 := B8.trans (b9.mono B8.size)))
      go_ret
      exact ⟨by simp, KEEP.out B9⟩

end Go.Proofs.YtigdkcpipiimnaaGreatDoor

namespace Go.Proofs.YtigdkcpipiimnaaGreatDoor
open Go.ChangeShapes Go.WideShapes Go.ChangeAt Go.RowKit Go.Eng Go.Deep

variable {w v v' w' : World} {C E wm : Nat} {lm rm : Option Nat} {c : CK} {e : Ev} {s : AuS}

set_option maxRecDepth 1000000 in
theorem law_long (W : World) (B : Nat) (haw : Calls Tryz.prog 5 #[] W fun e w' => e = .returned (.bool true) ∧ Below B W w') (p : Option Addr) (n cap : Nat) (x : Int) (hn : 100 < n) :
    Calls Tryz.prog 3 #[.slice p n cap, .int .u8 x] W fun e w' => e = .returned (.bool true) ∧ Below B W w' := by
  have hi : (100 : Int) < (n : Int) := by omega
  go_enter Tryz.func3, Tryz.ntmps3
  go_wp2_with (go_at_call 5; with_reducible refine haw.mono ?_; rintro e w1 ⟨rfl, b1⟩)
  go_ret
  exact ⟨rfl, b1⟩

theorem sl_empty (v : World) (p : Option Addr) (cap : Nat) : EvSl v (.slice p 0 cap) [] := ⟨p, cap, rfl, by simp, by simp, .inl rfl⟩

theorem check_empty (v : World) (p : Option Addr) (cap : Nat) : Calls Tryz.prog 6 #[.slice p 0 cap] v fun x w' => x = .returned (.tuple #[.int .i64 0, .int .i64 0]) ∧ Below v.heap.size v w' := by
  have := check_calls (sl_empty v p cap)
  simpa [CK.run] using this

theorem end_empty (v : World) (p : Option Addr) (cap : Nat) : Calls Tryz.prog 11 #[.slice p 0 cap] v fun x w' => ∃ lm rm, x = .returned (stV lm rm false) ∧ StAt w' lm rm ⟨[], [], false⟩ ∧ Below v.heap.size v w' := by
  have := end_calls (sl_empty v p cap)
  simpa [CK.run, CK.zero] using this

set_option maxHeartbeats 4000000 in
set_option maxRecDepth 1000000 in
theorem law_empty (W : World) (B : Nat) (hBl : B ≤ W.heap.size) (haw : Calls Tryz.prog 5 #[] W fun e w' => e = .returned (.bool true) ∧ Below B W w') (p : Option Addr) (cap : Nat) (x : Int) (hp : p = none → cap = 0) :
    Calls Tryz.prog 3 #[.slice p 0 cap, .int .u8 x] W fun e w' => e = .returned (.bool true) ∧ Below B W w' := by
  have hord := fun v => order_none v cap p hp
  have hchk := fun v => check_empty v p cap
  have hend := fun v => end_empty v p cap
  have hk : x.tmod 1 = 0 := Int.tmod_one x
  have ORD := aside_of hord
  have CHK := aside_of hchk
  have END := aside_of hend
  clear hord hchk hend
  have main : ∀ q : Option Addr, q = p → (q = none → cap = 0) → Calls Tryz.prog 3 #[.slice q 0 cap, .int .u8 x] W fun e w' => e = .returned (.bool true) ∧ Below B W w' := by
    intro q hq hqc
    subst hq
    cases q with
    | none =>
      obtain rfl := hqc rfl
      clear hqc hp
      go_enter Tryz.func3, Tryz.ntmps3
      go_upto_block 0 with (first
        | (go_at_call 5; with_reducible refine haw.mono ?_; clear haw; rintro e w1 ⟨he, b1⟩; subst he)
        | (go_at_call 6; have hh := CHK.out w1; with_reducible refine hh.mono ?_; clear hh; rintro e w2 ⟨he, b2⟩; subst he; have B2 := b1.trans (b2.mono (Nat.le_trans hBl b1.size)); clear b1 b2)
        | (go_at_call 6; have hh := CHK.out w2; with_reducible refine hh.mono ?_; clear hh; rintro e w3 ⟨he, b3⟩; subst he; have B3 := B2.trans (b3.mono (Nat.le_trans hBl B2.size)); clear B2 b3)
        | (go_at_call 7; have hh := ORD.out (w3.alloc (.cells #[.map none, .map none, .bool false] 30)); with_reducible refine hh.mono ?_; clear hh; rintro e w4 ⟨he, b4⟩; subst he))
      have s3 := Nat.le_trans hBl B3.size
      have B4 : Below B W w4 := (B3.alloc s3 _).trans (b4.mono (by simp; omega))
      have R4 := (RowS.new w3 none none false).below b4 (by simp)
      have hX : B ≤ w3.heap.size := s3
      generalize w3.heap.size = X at R4 hX ⊢
      have KEEP : Aside (∀ {v : World}, Below w4.heap.size w4 v → Below B W v ∧ RowS v X none none false) := aside_of fun hv => ⟨B4.trans (hv.mono (Nat.le_trans hBl B4.size)), R4.below hv R4.lt⟩
      have q0 := R4.q0
      have q1 := R4.q1
      have q2 := R4.q2
      clear b4 B3 B4 s3
      go_wp2
      refine wp_loop_rounds 1 ?_
      rw [rounds_succ]
      go_wp2
      refine wp_loop_rounds 1 ?_
      rw [rounds_succ]
      go_wp2_with (first
        | (go_at_call 10; have hh := leases_calls (st_zero w4) AuS.inv0 false; with_reducible refine hh.mono ?_; clear hh q0 q1 q2 R4; rintro e w5 ⟨he, B5⟩; subst he)
        | (go_at_call 11; have hh := END.out w5; with_reducible refine hh.mono ?_; clear hh; rintro x w6 ⟨lm6, rm6, hx, st6, b6⟩; subst hx; have B6 := B5.trans (b6.mono B5.size); clear B5 b6)
        | (go_at_call 10; have hh := leases_calls st6 AuS.inv0 false; with_reducible refine hh.mono ?_; clear hh; rintro e w7 ⟨he, b7⟩; subst he; have B7 := B6.trans (b7.mono B6.size); clear st6 B6 b7; have row7 := (KEEP.out B7).2; have q0 := row7.q0; have q1 := row7.q1; have q2 := row7.q2)
        | (go_at_call 12; have hh := closed_calls w7 none none false; with_reducible refine hh.mono ?_; clear hh q0 q1 q2 row7; rintro e w8 ⟨he, b8⟩; subst he; have B8 := B7.trans (b8.mono B7.size); clear B7 b8)
        | (go_at_call 11; have hh := END.out w8; with_reducible refine hh.mono ?_; clear hh; rintro x w9 ⟨lm9, rm9, hx, st9, b9⟩; subst hx; have B9 := B8.trans (b9.mono B8.size); clear B8 b9)
        | (go_at_call 12; have hh := closed_calls w9 lm9 rm9 false; with_reducible refine hh.mono ?_; clear hh; rintro e w10 ⟨he, b10⟩; subst he; have B10 := B9.trans (b10.mono B9.size)))
      go_ret
      exact ⟨by simp, (KEEP.out B10).1⟩
    | some a =>
      clear hqc hp
      go_enter Tryz.func3, Tryz.ntmps3
      go_upto_block 0 with (first
        | (go_at_call 5; with_reducible refine haw.mono ?_; clear haw; rintro e w1 ⟨he, b1⟩; subst he)
        | (go_at_call 6; have hh := CHK.out w1; with_reducible refine hh.mono ?_; clear hh; rintro e w2 ⟨he, b2⟩; subst he; have B2 := b1.trans (b2.mono (Nat.le_trans hBl b1.size)); clear b1 b2)
        | (go_at_call 6; have hh := CHK.out w2; with_reducible refine hh.mono ?_; clear hh; rintro e w3 ⟨he, b3⟩; subst he; have B3 := B2.trans (b3.mono (Nat.le_trans hBl B2.size)); clear B2 b3)
        | (go_at_call 7; have hh := ORD.out (w3.alloc (.cells #[.map none, .map none, .bool false] 30)); with_reducible refine hh.mono ?_; clear hh; rintro e w4 ⟨he, b4⟩; subst he))
      have s3 := Nat.le_trans hBl B3.size
      have B4 : Below B W w4 := (B3.alloc s3 _).trans (b4.mono (by simp; omega))
      have R4 := (RowS.new w3 none none false).below b4 (by simp)
      have hX : B ≤ w3.heap.size := s3
      generalize w3.heap.size = X at R4 hX ⊢
      have KEEP : Aside (∀ {v : World}, Below w4.heap.size w4 v → Below B W v ∧ RowS v X none none false) := aside_of fun hv => ⟨B4.trans (hv.mono (Nat.le_trans hBl B4.size)), R4.below hv R4.lt⟩
      have q0 := R4.q0
      have q1 := R4.q1
      have q2 := R4.q2
      clear b4 B3 B4 s3
      go_wp2
      refine wp_loop_rounds 1 ?_
      rw [rounds_succ]
      go_wp2
      refine wp_loop_rounds 1 ?_
      rw [rounds_succ]
      go_wp2_with (first
        | (go_at_call 10; have hh := leases_calls (st_zero w4) AuS.inv0 false; with_reducible refine hh.mono ?_; clear hh q0 q1 q2 R4; rintro e w5 ⟨he, B5⟩; subst he)
        | (go_at_call 11; have hh := END.out w5; with_reducible refine hh.mono ?_; clear hh; rintro x w6 ⟨lm6, rm6, hx, st6, b6⟩; subst hx; have B6 := B5.trans (b6.mono B5.size); clear B5 b6)
        | (go_at_call 10; have hh := leases_calls st6 AuS.inv0 false; with_reducible refine hh.mono ?_; clear hh; rintro e w7 ⟨he, b7⟩; subst he; have B7 := B6.trans (b7.mono B6.size); clear st6 B6 b7; have row7 := (KEEP.out B7).2; have q0 := row7.q0; have q1 := row7.q1; have q2 := row7.q2)
        | (go_at_call 12; have hh := closed_calls w7 none none false; with_reducible refine hh.mono ?_; clear hh q0 q1 q2 row7; rintro e w8 ⟨he, b8⟩; subst he; have B8 := B7.trans (b8.mono B7.size); clear B7 b8)
        | (go_at_call 11; have hh := END.out w8; with_reducible refine hh.mono ?_; clear hh; rintro x w9 ⟨lm9, rm9, hx, st9, b9⟩; subst hx; have B9 := B8.trans (b9.mono B8.size); clear B8 b9)
        | (go_at_call 12; have hh := closed_calls w9 lm9 rm9 false; with_reducible refine hh.mono ?_; clear hh; rintro e w10 ⟨he, b10⟩; subst he; have B10 := B9.trans (b10.mono B9.size)))
      go_ret
      exact ⟨by simp, (KEEP.out B10).1⟩
  exact main p rfl hp

/-- The law, at whatever slice of events. -/
theorem law_all (W : World) (haw : Calls Tryz.prog 5 #[] W fun e w' => e = .returned (.bool true) ∧ Below W.heap.size W w') (a0 : Option Addr) (n cap : Nat) (x : Int) (hcap : n ≤ cap) (hz : a0 = none → cap = 0) (hx0 : 0 ≤ x) (hx1 : x < 256)
    (F : n = 0 ∨ ∃ b off, a0 = some ⟨b, off, none⟩ ∧ b < W.heap.size ∧ ∀ i, i < n → SixAt W b (off + i * 6) .u64 .i64 .i64 .i64 .u64 .i64) :
    Calls Tryz.prog 3 #[.slice a0 n cap, .int .u8 x] W fun e w' => e = .returned (.bool true) ∧ Below W.heap.size W w' := by
  by_cases h100 : 100 < n
  · exact law_long W _ haw a0 n cap x h100
  · rcases F with rfl | ⟨b, off, rfl, hb, hF⟩
    · exact law_empty W _ (Nat.le_refl _) haw a0 cap x hz
    · obtain ⟨l, hl, hE⟩ := events_of hF
      exact law_some W _ rfl haw b off n cap x l hl.symm (by omega) hcap hb (fun k e he => (hE k e he).1) hx0 hx1

end Go.Proofs.YtigdkcpipiimnaaGreatDoor
