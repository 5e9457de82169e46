/- An answer, a point, any event. Conditions: how the checker lies in memory. -/
import Derived.Test.YtigdkcpipiimnaaGreatDoorCkA
import Derived.StillTailTactics
namespace Go.Proofs.YtigdkcpipiimnaaGreatDoor
open Go.ChangeShapes Go.WideShapes Go.ChangeAt Go.RowKit Go.Eng Go.Deep

variable {w v v' : World} {C E wm : Nat} {lm rm : Option Nat} {c : CK} {e : Ev}

set_option maxHeartbeats 1000000 in
set_option maxRecDepth 1000000 in
theorem ck_answer (h : CkAt w C lm rm wm c) (hK : Keys1 c.ways) (e : Ev) :
    Calls Tryz.prog 57 #[.pointer (some ⟨C, 0, none⟩), evA e] w fun x w' => CkOut w C wm (c.answer e) x w' := by
  have F1 := In.start h e
  clear h
  go_enter Tryz.func57, Tryz.ntmps57
  go_upto_region 1 with fail
  generalize w.alloc (.cells #[.int .u64 e.step, .int .i64 e.thread, .int .i64 e.kind, .int .i64 e.op, .int .u64 e.id, .int .i64 e.err] 34) = w1 at F1 ⊢
  generalize w.heap.size = E at F1 ⊢
  obtain ⟨p, ok, hl, hp⟩ := ways_looks F1.ck.wy e.thread
  go_cut [5, 6] (fun s5 s6 wx => ∃ N, s5 = .pointer (some ⟨N, 0, none⟩) ∧ s6 = .bool ok ∧ In w C E lm rm wm c e wx ∧ WBox wx N p ∧ Below w1.heap.size w1 wx)
  case first =>
    clear hp
    have q3 := F1.ck.q3
    have e1 := F1.ev.q1
    have l1 := hl _ (Below.refl _ w1).drew
    have l2 := hl _ ((below_alloc w1 (.cells #[.int .u64 0, .int .i64 0, .int .i64 0, .int .i64 0, .int .u64 0, .int .i64 0, .pointer none] 89)).drew)
    have Wn : WBox (w1.alloc (.cells #[.int .u64 0, .int .i64 0, .int .i64 0, .int .i64 0, .int .u64 0, .int .i64 0, .pointer none] 89)).drew w1.heap.size p0 := (WBox.new w1 p0).below (Below.refl _ _).drew
    have o0 : (w1.alloc (.cells #[.int .u64 0, .int .i64 0, .int .i64 0, .int .i64 0, .int .u64 0, .int .i64 0, .pointer none] 89)).drew.frozen? ⟨w1.heap.size, 0, none⟩ = false := Wn.f0
    have r0 : (w1.alloc (.cells #[.int .u64 0, .int .i64 0, .int .i64 0, .int .i64 0, .int .u64 0, .int .i64 0, .pointer none] 89)).drew.cell? ⟨w1.heap.size, 0, none⟩ = some (.int .u64 0) := Wn.q0
    have o1 : (w1.alloc (.cells #[.int .u64 0, .int .i64 0, .int .i64 0, .int .i64 0, .int .u64 0, .int .i64 0, .pointer none] 89)).drew.frozen? ⟨w1.heap.size, 1, none⟩ = false := Wn.f1
    have r1 : (w1.alloc (.cells #[.int .u64 0, .int .i64 0, .int .i64 0, .int .i64 0, .int .u64 0, .int .i64 0, .pointer none] 89)).drew.cell? ⟨w1.heap.size, 1, none⟩ = some (.int .i64 0) := Wn.q1
    have o2 : (w1.alloc (.cells #[.int .u64 0, .int .i64 0, .int .i64 0, .int .i64 0, .int .u64 0, .int .i64 0, .pointer none] 89)).drew.frozen? ⟨w1.heap.size, 2, none⟩ = false := Wn.f2
    have r2 : (w1.alloc (.cells #[.int .u64 0, .int .i64 0, .int .i64 0, .int .i64 0, .int .u64 0, .int .i64 0, .pointer none] 89)).drew.cell? ⟨w1.heap.size, 2, none⟩ = some (.int .i64 0) := Wn.q2
    have o3 : (w1.alloc (.cells #[.int .u64 0, .int .i64 0, .int .i64 0, .int .i64 0, .int .u64 0, .int .i64 0, .pointer none] 89)).drew.frozen? ⟨w1.heap.size, 3, none⟩ = false := Wn.f3
    have r3 : (w1.alloc (.cells #[.int .u64 0, .int .i64 0, .int .i64 0, .int .i64 0, .int .u64 0, .int .i64 0, .pointer none] 89)).drew.cell? ⟨w1.heap.size, 3, none⟩ = some (.int .i64 0) := Wn.q3
    have o4 : (w1.alloc (.cells #[.int .u64 0, .int .i64 0, .int .i64 0, .int .i64 0, .int .u64 0, .int .i64 0, .pointer none] 89)).drew.frozen? ⟨w1.heap.size, 4, none⟩ = false := Wn.f4
    have r4 : (w1.alloc (.cells #[.int .u64 0, .int .i64 0, .int .i64 0, .int .i64 0, .int .u64 0, .int .i64 0, .pointer none] 89)).drew.cell? ⟨w1.heap.size, 4, none⟩ = some (.int .u64 0) := Wn.q4
    have o5 : (w1.alloc (.cells #[.int .u64 0, .int .i64 0, .int .i64 0, .int .i64 0, .int .u64 0, .int .i64 0, .pointer none] 89)).drew.frozen? ⟨w1.heap.size, 5, none⟩ = false := Wn.f5
    have r5 : (w1.alloc (.cells #[.int .u64 0, .int .i64 0, .int .i64 0, .int .i64 0, .int .u64 0, .int .i64 0, .pointer none] 89)).drew.cell? ⟨w1.heap.size, 5, none⟩ = some (.int .i64 0) := Wn.q5
    have o6 : (w1.alloc (.cells #[.int .u64 0, .int .i64 0, .int .i64 0, .int .i64 0, .int .u64 0, .int .i64 0, .pointer none] 89)).drew.frozen? ⟨w1.heap.size, 6, none⟩ = false := Wn.f6
    have r6 : (w1.alloc (.cells #[.int .u64 0, .int .i64 0, .int .i64 0, .int .i64 0, .int .u64 0, .int .i64 0, .pointer none] 89)).drew.cell? ⟨w1.heap.size, 6, none⟩ = some (.pointer none) := Wn.q6
    go_region_held3 (fun w' => w'.cell? ⟨C, 3, none⟩ = some (.map (some wm)) ∧ w'.cell? ⟨E, 1, none⟩ = some (.int .i64 e.thread))
      (first
        | go_keep)
      (fail)
    all_goals
      go_wp2_with fail
      go_meet
      exact ⟨w1.heap.size, rfl, rfl, (F1.grow _).drew, (WBox.new w1 p).below (Below.refl _ _).drew, (below_alloc w1 _).drew⟩
  case rest =>
    obtain ⟨N, rfl, rfl, F3, W3, b3⟩ := hcut
    clear hl
    have n6 := W3.q6
    have n3 := W3.q3
    have e3 := F3.ev.q3
    rcases hp with ⟨hn, rfl, rfl⟩ | ⟨x, hx, rfl, hp⟩
    · have hR : c.answer e = (c, 13) := by unfold CK.answer; simp [hn]
      clear hn hK
      go_wp2
      go_ret
      rw [hR]
      exact F3.out 13
    · obtain ⟨k1, k2⟩ := hp wc b3
      obtain ⟨p1, p2⟩ := p
      simp only at k1 k2 n3 n6
      subst k1
      rcases k2 with ⟨rfl, hpt⟩ | ⟨b, q, rfl, hpt, hq⟩
      · have hR : c.answer e = (c, 13) := by unfold CK.answer; simp [hx, hpt]
        simp only [Option.map_none] at n6
        clear hp hK hx W3
        go_wp2
        go_ret
        rw [hR]
        exact F3.out 13
      · simp only [Option.map_some] at n6
        by_cases ho : x.call.op = e.op
        · have hon : (x.call.op == e.op) = true := by simpa using ho
          have d4 := hq.q4
          have d5 := hq.q5
          have e4 := F3.ev.q4
          have e5 := F3.ev.q5
          by_cases hi : q.id = e.id
          · by_cases hr : q.err = e.err
            · have hR : c.answer e = ({ c with ways := adel e.thread c.ways }, 0) := by unfold CK.answer; simp [hx, hpt, ho, hi, hr]
              have hib : (q.id != e.id) = false := by simpa using hi
              have hrb : (q.err != e.err) = false := by simpa using hr
              clear hp hx W3
              go_upto_region 4 with fail
              go_big_quiet (fail)
              have F5 := F3.below (v' := wc.drewN nq) ⟨rfl, rfl, rfl, Nat.le_refl _, fun _ _ => rfl⟩
              generalize wc.drewN nq = wd at F5 ⊢
              obtain ⟨ms, ck, hmu, hw⟩ := ways_del (F5.below (Below.refl _ _).drew).ck.wy hK e.thread
              have F4 := F5.drew.putW hw
              generalize hw4 : ({ wd.drew with heap := wd.drew.heap.setIfInBounds wm (.map ms.toArray ck) } : World) = w4 at hmu F4
              have q3 := F5.ck.q3
              have e1 := F5.ev.q1
              clear hw hw4 hK
              go_upto_region 6 with fail
              go_region_held3 (fun w' => w'.cell? ⟨C, 3, none⟩ = some (.map (some wm)) ∧ w'.cell? ⟨E, 1, none⟩ = some (.int .i64 e.thread)) (first | exact ⟨F4.ck.q3, F4.ev.q1⟩ | go_keep) (fail)
              go_wp2
              go_ret
              rw [hR]
              exact F4.out 0
            · have hR : c.answer e = (c, 17) := by unfold CK.answer; simp [hx, hpt, ho, hi, hr]
              have hib : (q.id != e.id) = false := by simpa using hi
              have hrb : (q.err != e.err) = true := by simpa using hr
              clear hp hK hx W3
              go_upto_region 4 with fail
              go_big_quiet (fail)
              have F5 := F3.below (v' := wc.drewN nq) ⟨rfl, rfl, rfl, Nat.le_refl _, fun _ _ => rfl⟩
              generalize wc.drewN nq = wd at F5 ⊢
              go_wp2
              go_ret
              rw [hR]
              exact F5.out 17
          · have hR : c.answer e = (c, 17) := by unfold CK.answer; simp [hx, hpt, ho, hi]
            have hib : (q.id != e.id) = true := by simpa using hi
            clear hp hK hx W3
            go_upto_region 4 with fail
            go_big_quiet (fail)
            have F5 := F3.below (v' := wc.drewN nq) ⟨rfl, rfl, rfl, Nat.le_refl _, fun _ _ => rfl⟩
            generalize wc.drewN nq = wd at F5 ⊢
            go_wp2
            go_ret
            rw [hR]
            exact F5.out 17
        · have hR : c.answer e = (c, 13) := by unfold CK.answer; simp [hx, hpt, ho]
          have hon : (x.call.op == e.op) = false := by simpa using ho
          clear hp hK hx W3
          go_wp2
          go_ret
          rw [hR]
          exact F3.out 13

end Go.Proofs.YtigdkcpipiimnaaGreatDoor

namespace Go.Proofs.YtigdkcpipiimnaaGreatDoor
open Go.ChangeShapes Go.WideShapes Go.ChangeAt Go.RowKit Go.Eng Go.Deep

variable {w v v' : World} {C E wm : Nat} {lm rm : Option Nat} {c : CK} {e : Ev}

set_option maxHeartbeats 1000000 in
set_option maxRecDepth 1000000 in
theorem ck_point (h : CkAt w C lm rm wm c) (hI : c.s.Inv) (e : Ev) :
    Calls Tryz.prog 56 #[.pointer (some ⟨C, 0, none⟩), evA e] w fun x w' => CkOut w C wm (c.point e) x w' := by
  have F1 := In.start h e
  clear h
  go_enter Tryz.func56, Tryz.ntmps56
  go_upto_region 1 with fail
  generalize w.alloc (.cells #[.int .u64 e.step, .int .i64 e.thread, .int .i64 e.kind, .int .i64 e.op, .int .u64 e.id, .int .i64 e.err] 34) = w1 at F1 ⊢
  generalize w.heap.size = E at F1 ⊢
  obtain ⟨p, ok, hl, hp⟩ := ways_looks F1.ck.wy e.thread
  go_cut [5, 6] (fun s5 s6 wx => ∃ N, s5 = .pointer (some ⟨N, 0, none⟩) ∧ s6 = .bool ok ∧ In w C E lm rm wm c e wx ∧ WBox wx N p ∧ Below w1.heap.size w1 wx)
  case first =>
    clear hp
    have q3 := F1.ck.q3
    have e1 := F1.ev.q1
    have l1 := hl _ (Below.refl _ w1).drew
    have l2 := hl _ ((below_alloc w1 (.cells #[.int .u64 0, .int .i64 0, .int .i64 0, .int .i64 0, .int .u64 0, .int .i64 0, .pointer none] 89)).drew)
    have Wn : WBox (w1.alloc (.cells #[.int .u64 0, .int .i64 0, .int .i64 0, .int .i64 0, .int .u64 0, .int .i64 0, .pointer none] 89)).drew w1.heap.size p0 := (WBox.new w1 p0).below (Below.refl _ _).drew
    have o0 : (w1.alloc (.cells #[.int .u64 0, .int .i64 0, .int .i64 0, .int .i64 0, .int .u64 0, .int .i64 0, .pointer none] 89)).drew.frozen? ⟨w1.heap.size, 0, none⟩ = false := Wn.f0
    have r0 : (w1.alloc (.cells #[.int .u64 0, .int .i64 0, .int .i64 0, .int .i64 0, .int .u64 0, .int .i64 0, .pointer none] 89)).drew.cell? ⟨w1.heap.size, 0, none⟩ = some (.int .u64 0) := Wn.q0
    have o1 : (w1.alloc (.cells #[.int .u64 0, .int .i64 0, .int .i64 0, .int .i64 0, .int .u64 0, .int .i64 0, .pointer none] 89)).drew.frozen? ⟨w1.heap.size, 1, none⟩ = false := Wn.f1
    have r1 : (w1.alloc (.cells #[.int .u64 0, .int .i64 0, .int .i64 0, .int .i64 0, .int .u64 0, .int .i64 0, .pointer none] 89)).drew.cell? ⟨w1.heap.size, 1, none⟩ = some (.int .i64 0) := Wn.q1
    have o2 : (w1.alloc (.cells #[.int .u64 0, .int .i64 0, .int .i64 0, .int .i64 0, .int .u64 0, .int .i64 0, .pointer none] 89)).drew.frozen? ⟨w1.heap.size, 2, none⟩ = false := Wn.f2
    have r2 : (w1.alloc (.cells #[.int .u64 0, .int .i64 0, .int .i64 0, .int .i64 0, .int .u64 0, .int .i64 0, .pointer none] 89)).drew.cell? ⟨w1.heap.size, 2, none⟩ = some (.int .i64 0) := Wn.q2
    have o3 : (w1.alloc (.cells #[.int .u64 0, .int .i64 0, .int .i64 0, .int .i64 0, .int .u64 0, .int .i64 0, .pointer none] 89)).drew.frozen? ⟨w1.heap.size, 3, none⟩ = false := Wn.f3
    have r3 : (w1.alloc (.cells #[.int .u64 0, .int .i64 0, .int .i64 0, .int .i64 0, .int .u64 0, .int .i64 0, .pointer none] 89)).drew.cell? ⟨w1.heap.size, 3, none⟩ = some (.int .i64 0) := Wn.q3
    have o4 : (w1.alloc (.cells #[.int .u64 0, .int .i64 0, .int .i64 0, .int .i64 0, .int .u64 0, .int .i64 0, .pointer none] 89)).drew.frozen? ⟨w1.heap.size, 4, none⟩ = false := Wn.f4
    have r4 : (w1.alloc (.cells #[.int .u64 0, .int .i64 0, .int .i64 0, .int .i64 0, .int .u64 0, .int .i64 0, .pointer none] 89)).drew.cell? ⟨w1.heap.size, 4, none⟩ = some (.int .u64 0) := Wn.q4
    have o5 : (w1.alloc (.cells #[.int .u64 0, .int .i64 0, .int .i64 0, .int .i64 0, .int .u64 0, .int .i64 0, .pointer none] 89)).drew.frozen? ⟨w1.heap.size, 5, none⟩ = false := Wn.f5
    have r5 : (w1.alloc (.cells #[.int .u64 0, .int .i64 0, .int .i64 0, .int .i64 0, .int .u64 0, .int .i64 0, .pointer none] 89)).drew.cell? ⟨w1.heap.size, 5, none⟩ = some (.int .i64 0) := Wn.q5
    have o6 : (w1.alloc (.cells #[.int .u64 0, .int .i64 0, .int .i64 0, .int .i64 0, .int .u64 0, .int .i64 0, .pointer none] 89)).drew.frozen? ⟨w1.heap.size, 6, none⟩ = false := Wn.f6
    have r6 : (w1.alloc (.cells #[.int .u64 0, .int .i64 0, .int .i64 0, .int .i64 0, .int .u64 0, .int .i64 0, .pointer none] 89)).drew.cell? ⟨w1.heap.size, 6, none⟩ = some (.pointer none) := Wn.q6
    go_region_held3 (fun w' => w'.cell? ⟨C, 3, none⟩ = some (.map (some wm)) ∧ w'.cell? ⟨E, 1, none⟩ = some (.int .i64 e.thread))
      (first
        | go_keep)
      (fail)
    all_goals
      go_wp2_with fail
      go_meet
      exact ⟨w1.heap.size, rfl, rfl, (F1.grow _).drew, (WBox.new w1 p).below (Below.refl _ _).drew, (below_alloc w1 _).drew⟩
  case rest =>
    obtain ⟨N, rfl, rfl, F3, W3, b3⟩ := hcut
    clear hl
    have n6 := W3.q6
    have n3 := W3.q3
    have n4 := W3.q4
    have e3 := F3.ev.q3
    have e4 := F3.ev.q4
    rcases hp with ⟨hn, rfl, rfl⟩ | ⟨x, hx, rfl, hp⟩
    · have hR : c.point e = (c, 13) := by unfold CK.point; simp [hn]
      clear hn hI
      go_wp2
      go_ret
      rw [hR]
      exact F3.out 13
    · obtain ⟨k1, k2⟩ := hp wc b3
      obtain ⟨p1, p2⟩ := p
      simp only at k1 k2 n3 n4 n6
      subst k1
      rcases k2 with ⟨rfl, hpt⟩ | ⟨b, q, rfl, hpt, hq⟩
      · simp only [Option.map_none] at n6
        by_cases ho : x.call.op = e.op
        · have hon : (x.call.op != e.op) = false := by simpa using ho
          by_cases hi : (e.op = 1 ∨ e.op = 2) ∧ e.id ≠ x.call.id
          · have hR : c.point e = (c, 17) := by unfold CK.point; simp [hx, hpt, ho, hi]
            have hib : (e.id != x.call.id) = true := by simpa using hi.2
            clear hp hx W3 hI
            rcases hi with ⟨h1 | h2, _⟩
            · have h1' : (e.op == 1) = true := by simpa using h1
              go_wp2
              go_ret
              rw [hR]
              exact F3.out 17
            · have h2' : (e.op == 2) = true := by simpa using h2
              have h1' : (e.op == 1) = false := by simp [h2]
              go_wp2
              go_ret
              rw [hR]
              exact F3.out 17
          · have hbef : ∃ b1 b2 b3 : Bool, (e.op == 1) = b1 ∧ (e.op == 2) = b2 ∧ (e.id != x.call.id) = b3 ∧ ((b1 = false ∧ b2 = false) ∨ b3 = false) := by
              refine ⟨_, _, _, rfl, rfl, rfl, ?_⟩
              by_cases h1 : e.op = 1
              · exact .inr (by have := fun h => hi ⟨.inl h1, h⟩; simpa using this)
              · by_cases h2 : e.op = 2
                · exact .inr (by have := fun h => hi ⟨.inr h2, h⟩; simpa using this)
                · exact .inl ⟨by simpa using h1, by simpa using h2⟩
            obtain ⟨s', f, hR⟩ : ∃ s' f, c.s.Point e.thread e.op e.id e.err = (s', f) := ⟨_, _, rfl⟩
            have hr := fun (v : World) (F : In w C E lm rm wm c e v) => in_point F hI e.thread e.op e.id e.err
            rw [hR] at hr
            have hP : c.point e = if f = 0 then ({ c with s := s', ways := aput e.thread ⟨x.call, some e⟩ c.ways }, 0) else (c, f) := by
              unfold CK.point; simp only [hx]; rw [if_neg (by simp [hpt, ho]), if_neg hi, hR]
            simp only at hr
            clear hp hx hR hI hi
            go_upto_region 4 with fail
            go_cut [35] (fun s35 wx => s35 = .bool false ∧ wx = wc)
            case first =>
              obtain ⟨b1, b2, b3, t1, t2, t3, hb⟩ := hbef
              rcases hb with ⟨rfl, rfl⟩ | rfl
              · go_wp2_with fail
                go_meet
                exact ⟨rfl, rfl⟩
              · cases b1 <;> cases b2 <;> (go_wp2_with fail; go_meet; exact ⟨rfl, rfl⟩)
            case rest =>
              obtain ⟨rfl, rfl⟩ := hcut
              clear hbef
              go_upto_region 6 with fail
              have Fd := F3.drew
              have Fn := (F3.rowed none none false).below (Below.refl _ _).drew
              have Wn := W3.below ((below_alloc wc (.cells #[.map none, .map none, .bool false] 30)).drew)
              have Wd := W3.below (Below.refl _ _).drew
              have q0 := F3.ck.q0
              have q1 := F3.ck.q1
              have q2 := F3.ck.q2
              have e1 := F3.ev.q1
              have e5 := F3.ev.q5
              go_cut [7, 8] (fun s7 s8 wx => ∃ X lm' rm', s7 = .pointer (some ⟨X, 0, none⟩) ∧ s8 = .int .i64 f ∧ InR w C E X lm rm wm c e lm' rm' s'.c wx ∧ WBox wx N (x.call, none) ∧ StAt wx lm' rm' s' ∧ lm' ≠ some wm ∧ rm' ≠ some wm)
              case first =>
                go_region_held3 (fun w' => w'.cell? ⟨C, 0, none⟩ = some (.map lm) ∧ w'.cell? ⟨C, 1, none⟩ = some (.map rm) ∧ w'.cell? ⟨C, 2, none⟩ = some (.bool c.s.c) ∧ w'.cell? ⟨E, 1, none⟩ = some (.int .i64 e.thread) ∧ w'.cell? ⟨E, 3, none⟩ = some (.int .i64 e.op) ∧ w'.cell? ⟨E, 4, none⟩ = some (.int .u64 e.id) ∧ w'.cell? ⟨E, 5, none⟩ = some (.int .i64 e.err))
                  (first
                    | exact Fn.i.six
                    | exact F2.six
                    | exact (F2.grow _).six
                    | exact (Fo.put lm' rm' s'.c).i.six
                    | exact ((F2.rowed none none false).put lm' rm' s'.c).i.six
                    | go_keep)
                  (first
                    | (go_at_call 9; with_reducible refine (hr _ Fd).mono ?_; rintro x w2 ⟨lm', rm', hx, st2, nl, nr, b2, F2⟩; subst hx)
                    | (go_at_call 9; with_reducible refine (hr _ Fn.i).mono ?_; rintro x w2 ⟨lm', rm', hx, st2, nl, nr, b2, F2⟩; subst hx; have Fo := Fn.below b2; have o0 := Fo.row.f0; have o1 := Fo.row.f1; have o2 := Fo.row.f2; have p0 := Fo.row.q0; have p1 := Fo.row.q1; have p2 := Fo.row.q2))
                · go_wp2_with fail
                  go_meet
                  exact ⟨w2.heap.size, lm', rm', rfl, rfl, F2.rowed lm' rm' s'.c, (Wd.below b2).below (below_alloc _ _), st2.grow _, nl, nr⟩
                · go_wp2_with fail
                  go_meet
                  exact ⟨wc.heap.size, lm', rm', rfl, rfl, Fo.put lm' rm' s'.c, (((Wn.below b2).offRow Fo.row _).offRow (Fo.put1 lm').row _).offRow (Fo.put2 lm' rm').row _, st2.offRow3 Fo.row _ _ _, nl, nr⟩
              case rest =>
                obtain ⟨X, lm', rm', rfl, rfl, F5, W5, st5, nl, nr⟩ := hcut
                clear hr F1 Fd Fn Wn Wd q0 q1 q2 e1 e5 e3 e4 n3 n4 n6 b3 W3 F3 ho hon hpt
                have q0 := F5.row.q0
                have q1 := F5.row.q1
                have q2 := F5.row.q2
                by_cases hf : f = 0
                · have hfb : (f == 0) = true := by simpa using hf
                  rw [if_pos hf] at hP
                  subst hf
                  have c0 := F5.i.ck.q0
                  have c1 := F5.i.ck.q1
                  have c2 := F5.i.ck.q2
                  have f0 := F5.i.ck.f0
                  have f1 := F5.i.ck.f1
                  have f2 := F5.i.ck.f2
                  have F6 := F5.i.putS st5 nl nr
                  have W6 := WBox.putS (lm' := lm') (rm' := rm') (s' := s') W5 F5.i.ck
                  clear F5 W5 st5 nl nr
                  go_upto_region 9 with fail
                  generalize ((wc.setCell ⟨C, 0, none⟩ (.map lm')).setCell ⟨C, 1, none⟩ (.map rm')).setCell ⟨C, 2, none⟩ (.bool s'.c) = w6 at F6 W6 ⊢
                  obtain ⟨ms, ck, hmu, hw⟩ := ways_put (F6.below (Below.refl _ _).drew).ck.wy e.thread (p := (x.call, some E)) (x := ⟨x.call, some e⟩) ⟨rfl, .inr ⟨E, e, rfl, rfl, F6.drew.ev⟩⟩
                  change Sem.run Tryz.prog (Instr.mapUpdate 73 (.map (some wm)) (.int .i64 e.thread) (.agg #[.int .u64 x.call.step, .int .i64 x.call.thread, .int .i64 x.call.kind, .int .i64 x.call.op, .int .u64 x.call.id, .int .i64 x.call.err, .pointer (some ⟨E, 0, none⟩)])) w6.drew = _ at hmu
                  have F7 := F6.drew.putW hw
                  generalize hw7 : ({ w6.drew with heap := w6.drew.heap.setIfInBounds wm (.map ms.toArray ck) } : World) = w7 at hmu F7
                  have hW7 : WBox w7 N (x.call, none) := by
                    rw [← hw7]
                    obtain ⟨_, ⟨_, _, hm, _⟩, _⟩ := F6.ck.wy
                    show (w6.heap.setIfInBounds wm _)[N]? = _
                    rw [Array.getElem?_setIfInBounds, if_neg]
                    · exact W6
                    · rintro rfl
                      unfold WBox at W6
                      rw [W6] at hm; simp at hm
                  clear hw hw7
                  have q3 := F6.ck.q3
                  have e1 := F6.ev.q1
                  have n0 := W6.q0
                  have n1 := W6.q1
                  have n2 := W6.q2
                  have n3 := W6.q3
                  have n4 := W6.q4
                  have n5 := W6.q5
                  go_region_held3 (fun w' => w'.cell? ⟨C, 3, none⟩ = some (.map (some wm)) ∧ w'.cell? ⟨E, 1, none⟩ = some (.int .i64 e.thread) ∧ w'.cell? ⟨N, 0, none⟩ = some (.int .u64 x.call.step) ∧ w'.cell? ⟨N, 1, none⟩ = some (.int .i64 x.call.thread) ∧ w'.cell? ⟨N, 2, none⟩ = some (.int .i64 x.call.kind) ∧ w'.cell? ⟨N, 3, none⟩ = some (.int .i64 x.call.op) ∧ w'.cell? ⟨N, 4, none⟩ = some (.int .u64 x.call.id) ∧ w'.cell? ⟨N, 5, none⟩ = some (.int .i64 x.call.err))
                    (first
                      | exact ⟨F7.ck.q3, F7.ev.q1, hW7.q0, hW7.q1, hW7.q2, hW7.q3, hW7.q4, hW7.q5⟩
                      | go_keep)
                    (fail)
                  go_wp2
                  go_ret
                  try rw [hP]
                  exact F7.out 0
                · have hfb : (f == 0) = false := by simpa using hf
                  rw [if_neg hf] at hP
                  go_wp2
                  go_ret
                  rw [hP]
                  exact F5.i.out f
        · have hR : c.point e = (c, 13) := by unfold CK.point; simp [hx, ho]
          have hon : (x.call.op != e.op) = true := by simpa using ho
          clear hp hx W3 hI
          go_wp2
          go_ret
          rw [hR]
          exact F3.out 13
      · have hR : c.point e = (c, 13) := by unfold CK.point; simp [hx, hpt]
        simp only [Option.map_some] at n6
        clear hp hx W3 hI
        go_wp2
        go_ret
        rw [hR]
        exact F3.out 13

end Go.Proofs.YtigdkcpipiimnaaGreatDoor

namespace Go.Proofs.YtigdkcpipiimnaaGreatDoor
open Go.ChangeShapes Go.WideShapes Go.ChangeAt Go.RowKit Go.Eng Go.Deep

variable {w v v' : World} {C E wm : Nat} {lm rm : Option Nat} {c : CK} {e : Ev}

def bd (C n : Nat) : Value := .func (.func n) #[.pointer (some ⟨C, 0, none⟩)] #[]
theorem ixA (C : Nat) (v : World) : (Instr.index 110 (.agg #[bd C 55, bd C 56, bd C 57, bd C 58]) (.int .i64 0)).run Tryz.prog v = .ok (bd C 55) v := by kernel_rfl
theorem ixB (C : Nat) (v : World) : (Instr.index 110 (.agg #[bd C 55, bd C 56, bd C 57, bd C 58]) (.int .i64 1)).run Tryz.prog v = .ok (bd C 56) v := by kernel_rfl
theorem ixC (C : Nat) (v : World) : (Instr.index 110 (.agg #[bd C 55, bd C 56, bd C 57, bd C 58]) (.int .i64 2)).run Tryz.prog v = .ok (bd C 57) v := by kernel_rfl
theorem ixD (C : Nat) (v : World) : (Instr.index 110 (.agg #[bd C 55, bd C 56, bd C 57, bd C 58]) (.int .i64 3)).run Tryz.prog v = .ok (bd C 58) v := by kernel_rfl

set_option maxHeartbeats 4000000 in
set_option maxRecDepth 1000000 in
theorem ck_one (h : CkAt w C lm rm wm c) (hO : c.s.Inv ∧ Keys1 c.ways) (e : Ev) :
    Calls Tryz.prog 34 #[.pointer (some ⟨C, 0, none⟩), evA e] w fun x w' => CkOut w C wm (c.one e) x w' := by
  have F1 := In.start h e
  clear h
  go_enter Tryz.func34, Tryz.ntmps34
  go_upto_region 1 with fail
  generalize w.alloc (.cells #[.int .u64 e.step, .int .i64 e.thread, .int .i64 e.kind, .int .i64 e.op, .int .u64 e.id, .int .i64 e.err] 34) = w1 at F1 ⊢
  generalize w.heap.size = E at F1 ⊢
  have e0 := F1.ev.q0
  have e2 := F1.ev.q2
  have e3 := F1.ev.q3
  have q4 := F1.ck.q4
  go_cut [31] (fun s31 wx => s31 = .bool (c.bad e) ∧ In w C E lm rm wm c e wx)
  case first =>
    by_cases h0 : e.step < c.step
    · have hb : c.bad e = true := by unfold CK.bad; simp [h0]
      go_big_quiet (fail)
      go_wp2_with fail
      go_meet
      exact ⟨by rw [hb], F1.quiet _⟩
    by_cases h1 : e.kind < 0
    · have hb : c.bad e = true := by unfold CK.bad; simp [h1]
      go_big_quiet (fail)
      go_wp2_with fail
      go_meet
      exact ⟨by rw [hb], F1.quiet _⟩
    by_cases h2 : 3 < e.kind
    · have hb : c.bad e = true := by unfold CK.bad; simp [h2]
      go_big_quiet (fail)
      go_wp2_with fail
      go_meet
      exact ⟨by rw [hb], F1.quiet _⟩
    by_cases h3 : e.op < 0
    · have hb : c.bad e = true := by unfold CK.bad; simp [h3]
      go_big_quiet (fail)
      go_wp2_with fail
      go_meet
      exact ⟨by rw [hb], F1.quiet _⟩
    by_cases h4 : 4 < e.op
    · have hb : c.bad e = true := by unfold CK.bad; simp [h4]
      go_big_quiet (fail)
      go_wp2_with fail
      go_meet
      exact ⟨by rw [hb], F1.quiet _⟩
    have hb : c.bad e = false := by unfold CK.bad; simp [h0, h1, h2, h3, h4]
    go_big_quiet (fail)
    go_wp2_with fail
    go_meet
    exact ⟨by rw [hb], F1.quiet _⟩
  case rest =>
    obtain ⟨rfl, F2⟩ := hcut
    clear F1 e0 e2 e3 q4
    cases hb : c.bad e with
    | true =>
      go_wp2
      go_ret
      rw [show c.one e = (c, 2) by unfold CK.one; rw [if_pos hb]]
      exact F2.out 2
    | false =>
      have hk : e.kind = 0 ∨ e.kind = 1 ∨ e.kind = 2 ∨ e.kind = 3 := by
        have hb' := hb
        unfold CK.bad at hb'
        simp only [Bool.or_eq_false_iff, decide_eq_false_iff_not] at hb'
        omega
      have e0 := F2.ev.q0
      have f4 := F2.ck.f4
      have q4 := F2.ck.q4
      go_upto_region 4 with fail
      have F3 := F2.putStep e.step
      generalize wc.setCell ⟨C, 4, none⟩ (.int .u64 e.step) = w3 at F3 ⊢
      clear F2 e0 f4 q4
      have Fd := F3.drew
      have e0 := F3.ev.q0
      have e1 := F3.ev.q1
      have e2 := F3.ev.q2
      have e3 := F3.ev.q3
      have e4 := F3.ev.q4
      have e5 := F3.ev.q5
      rcases hk with hk | hk | hk | hk
      · have hR : c.one e = CK.call { c with step := e.step } e := by unfold CK.one; rw [if_neg (by rw [hb]; simp), if_pos hk]
        have hc := ck_call Fd.ck e
        change Calls _ _ #[_, .agg #[.int .u64 e.step, .int .i64 e.thread, .int .i64 e.kind, .int .i64 e.op, .int .u64 e.id, .int .i64 e.err]] _ _ at hc
        generalize CK.call { c with step := e.step } e = R at hR hc
        rw [hk] at hc e2
        unfold CkOut at hc
        clear hO hb
        have hix := ixA C
        simp only [bd] at hix
        refine wp_region_still_tail 13 (by kernel_rfl) (by kernel_rfl) ?_
        simp only [List.take_succ_cons, List.take_zero, List.drop_succ_cons, List.drop_zero]
        repeat still_step
        refine wpStill_nil ?_
        change wpList _ _ _ _ _ w3.drew
        go_wp2_with (go_at_call 55; with_reducible refine hc.mono ?_; rintro x w2 ⟨hx, lm', rm', k2, u2⟩; subst hx; have F4 := Fd.after k2 u2)
        go_ret
        rw [hR]
        exact ⟨rfl, lm', rm', F4.ck, F4.up⟩
      · have hR : c.one e = CK.point { c with step := e.step } e := by unfold CK.one; rw [if_neg (by rw [hb]; simp), if_neg (by rw [hk]; decide), if_pos hk]
        have hc := ck_point Fd.ck hO.1 e
        change Calls _ _ #[_, .agg #[.int .u64 e.step, .int .i64 e.thread, .int .i64 e.kind, .int .i64 e.op, .int .u64 e.id, .int .i64 e.err]] _ _ at hc
        generalize CK.point { c with step := e.step } e = R at hR hc
        rw [hk] at hc e2
        unfold CkOut at hc
        clear hO hb
        have hix := ixB C
        simp only [bd] at hix
        refine wp_region_still_tail 13 (by kernel_rfl) (by kernel_rfl) ?_
        simp only [List.take_succ_cons, List.take_zero, List.drop_succ_cons, List.drop_zero]
        repeat still_step
        refine wpStill_nil ?_
        change wpList _ _ _ _ _ w3.drew
        go_wp2_with (go_at_call 56; with_reducible refine hc.mono ?_; rintro x w2 ⟨hx, lm', rm', k2, u2⟩; subst hx; have F4 := Fd.after k2 u2)
        go_ret
        rw [hR]
        exact ⟨rfl, lm', rm', F4.ck, F4.up⟩
      · have hR : c.one e = CK.answer { c with step := e.step } e := by unfold CK.one; rw [if_neg (by rw [hb]; simp), if_neg (by rw [hk]; decide), if_neg (by rw [hk]; decide), if_pos hk]
        have hc := ck_answer Fd.ck hO.2 e
        change Calls _ _ #[_, .agg #[.int .u64 e.step, .int .i64 e.thread, .int .i64 e.kind, .int .i64 e.op, .int .u64 e.id, .int .i64 e.err]] _ _ at hc
        generalize CK.answer { c with step := e.step } e = R at hR hc
        rw [hk] at hc e2
        unfold CkOut at hc
        clear hO hb
        have hix := ixC C
        simp only [bd] at hix
        refine wp_region_still_tail 13 (by kernel_rfl) (by kernel_rfl) ?_
        simp only [List.take_succ_cons, List.take_zero, List.drop_succ_cons, List.drop_zero]
        repeat still_step
        refine wpStill_nil ?_
        change wpList _ _ _ _ _ w3.drew
        go_wp2_with (go_at_call 57; with_reducible refine hc.mono ?_; rintro x w2 ⟨hx, lm', rm', k2, u2⟩; subst hx; have F4 := Fd.after k2 u2)
        go_ret
        rw [hR]
        exact ⟨rfl, lm', rm', F4.ck, F4.up⟩
      · have hR : c.one e = CK.retire { c with step := e.step } e := by unfold CK.one; rw [if_neg (by rw [hb]; simp), if_neg (by rw [hk]; decide), if_neg (by rw [hk]; decide), if_neg (by rw [hk]; decide)]
        have hc := ck_retire Fd.ck e
        change Calls _ _ #[_, .agg #[.int .u64 e.step, .int .i64 e.thread, .int .i64 e.kind, .int .i64 e.op, .int .u64 e.id, .int .i64 e.err]] _ _ at hc
        generalize CK.retire { c with step := e.step } e = R at hR hc
        rw [hk] at hc e2
        unfold CkOut at hc
        clear hO hb
        have hix := ixD C
        simp only [bd] at hix
        refine wp_region_still_tail 13 (by kernel_rfl) (by kernel_rfl) ?_
        simp only [List.take_succ_cons, List.take_zero, List.drop_succ_cons, List.drop_zero]
        repeat still_step
        refine wpStill_nil ?_
        change wpList _ _ _ _ _ w3.drew
        go_wp2_with (go_at_call 58; with_reducible refine hc.mono ?_; rintro x w2 ⟨hx, lm', rm', k2, u2⟩; subst hx; have F4 := Fd.after k2 u2)
        go_ret
        rw [hR]
        exact ⟨rfl, lm', rm', F4.ck, F4.up⟩

end Go.Proofs.YtigdkcpipiimnaaGreatDoor
