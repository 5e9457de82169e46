/- The wheel's keys by their ticks; the leases' keys, sorted. Conditions: how the maps lie in memory; what the sorts do. -/
import Derived.Test.YtbdnlaepeladbaaGreatDoorBkC
import Derived.Sort.Grow
import Derived.Deep.Draws
namespace Go.Proofs.YtbdnlaepeladbaaGreatDoor
open Go.ChangeShapes Go.WideShapes Go.ChangeAt Go.RowKit Go.Eng

variable {w w' : World}

/-- slices.AppendSeq(nil, maps.Keys(m)), at the leases (bo/Sq1's appendSeq_map says it). -/
def AppLs : Prop := ∀ (w : World) (c m : Nat) (es : List (Int × Le)), w.cell? ⟨c, 0, none⟩ = some (.map (some m)) → MapSt .u64 leV w m es → Keys1 es → (∀ p ∈ es, (Lit.int .u64 p.1).wf = true) → es.length ≤ 1000 →
  Calls Tryz.prog 230 #[.slice none 0 0, keysV 203 c] w fun e w' => ∃ (v : Value) (ss : List Int), e = .returned v ∧ ss.Perm (es.map (·.1)) ∧ w'.ownsRow w.heap.size 22 1 v ss.length (ss.map (Value.int .u64)) ∧ Below w.heap.size w w'

/-- slices.Sort at words: an own row, sorted. -/
def SortOwn : Prop := ∀ (w : World) (base : Nat) (v : Value) (zs : List Int), w.ownsRow base 22 1 v zs.length (zs.map (Value.int .u64)) → zs.length ≤ 1000 →
  Calls Tryz.prog 202 #[v] w fun e w' => e = .returned (.tuple #[]) ∧ ∃ ys : List Int, ys.Perm zs ∧ ys.Pairwise (· ≤ ·) ∧ w'.ownsRow base 22 1 v ys.length (ys.map (Value.int .u64)) ∧ Below base w w'

set_option maxRecDepth 100000 in
theorem collect_calls (hA : AppLs) {c m : Nat} {es : List (Int × Le)} (hc : w.cell? ⟨c, 0, none⟩ = some (.map (some m))) (hm : MapSt .u64 leV w m es) (hk : Keys1 es) (hwf : ∀ p ∈ es, (Lit.int .u64 p.1).wf = true) (hl : es.length ≤ 1000) :
    Calls Tryz.prog 201 #[keysV 203 c] w fun e w' => ∃ (v : Value) (ss : List Int), e = .returned v ∧ ss.Perm (es.map (·.1)) ∧ w'.ownsRow w.heap.size 22 1 v ss.length (ss.map (Value.int .u64)) ∧ Below w.heap.size w w' := by
  have ha := hA w c m es hc hm hk hwf hl
  clear hc hm hk hwf hl hA
  unfold keysV at ha ⊢
  go_enter Tryz.func201, Tryz.ntmps201
  go_wp2_with (go_at_call 230; refine ha.mono ?_; clear ha; rintro e w1 ⟨v, ss, he, hp, ho, b1⟩; subst he)
  go_ret
  exact ⟨v, ss, rfl, hp, ho, b1⟩

set_option maxRecDepth 100000 in
theorem sortedLs_of (hA : AppLs) (hSo : SortOwn) : SortedLs := by
  intro w c m es hc hm hk hwf hl
  have ha := collect_calls hA hc hm hk hwf hl
  have HS := aside_of (And.intro hSo hl)
  clear hc hm hk hwf hl hA hSo
  unfold keysV at ha ⊢
  go_enter Tryz.func161, Tryz.ntmps161
  go_wp2_with (first
    | (go_at_call 201; refine ha.mono ?_; clear ha; rintro e w1 ⟨v, ss, he, hp, ho, b1⟩; subst he; have hs := HS.out.1 w1 w.heap.size v ss ho (by rw [hp.length_eq, List.length_map]; exact HS.out.2))
    | (go_at_call 202; refine hs.mono ?_; clear hs; rintro e w2 ⟨he, ys, hy, hle, hoy, b2⟩; subst he))
  obtain ⟨a, cap, rfl⟩ := own_shapeU hoy
  go_ret
  exact ⟨a, cap, ys, rfl, ⟨hy.trans hp, hle⟩, .of_own hoy, b1.trans b2⟩

end Go.Proofs.YtbdnlaepeladbaaGreatDoor

namespace Go.Proofs.YtbdnlaepeladbaaGreatDoor
open Go.ChangeShapes Go.WideShapes Go.ChangeAt Go.RowKit Go.Eng

variable {w w' : World} {wl mt : Nat} {tm : List (Int × Int)}

/-- slices.AppendSeq(nil, maps.Keys(m)), at the timers. -/
def AppTm : Prop := ∀ (w : World) (c m : Nat) (es : List (Int × Int)), w.cell? ⟨c, 0, none⟩ = some (.map (some m)) → MapSt .u64 uV w m es → Keys1 es → (∀ p ∈ es, (Lit.int .u64 p.1).wf = true) → es.length ≤ 1000 →
  Calls Tryz.prog 230 #[.slice none 0 0, keysV 228 c] w fun e w' => ∃ (v : Value) (ss : List Int), e = .returned v ∧ ss.Perm (es.map (·.1)) ∧ w'.ownsRow w.heap.size 22 1 v ss.length (ss.map (Value.int .u64)) ∧ Below w.heap.size w w'

/-- slices.SortFunc at words, by the wheel's ticks. -/
def SortFuncOwn : Prop := ∀ (w : World) (base c wl mt : Nat) (tm : List (Int × Int)) (v : Value) (zs : List Int), w.cell? ⟨c, 0, none⟩ = some (.pointer (some ⟨wl, 0, none⟩)) → WhAt w wl mt tm → c < base → wl < base → mt < base → w.ownsRow base 22 1 v zs.length (zs.map (Value.int .u64)) → zs.length ≤ 1000 → (∀ z ∈ zs, (aget z tm).isSome) →
  Calls Tryz.prog 227 #[v, keysV 198 c] w fun e w' => e = .returned (.tuple #[]) ∧ ∃ ys : List Int, ys.Perm zs ∧ ys.Pairwise (KeyLe tm) ∧ w'.ownsRow base 22 1 v ys.length (ys.map (Value.int .u64)) ∧ Below base w w'

theorem isKeys_of {ss ys : List Int} (hk : Keys1 tm) (hl : tm.length ≤ 1000) (h1 : ss.Perm (tm.map (·.1))) (h2 : ys.Perm ss) (h3 : ys.Pairwise (KeyLe tm)) : IsKeys tm ys := by
  have hp := h2.trans h1
  refine ⟨hp.nodup_iff.2 (List.pairwise_map.2 hk), fun id => ?_, h3, by rw [hp.length_eq, List.length_map]; omega⟩
  rw [hp.mem_iff]
  constructor
  · intro h
    obtain ⟨p, hp, rfl⟩ := List.mem_map.1 h
    rw [Keys1.get hk hp]; rfl
  · intro h
    obtain ⟨v, hv⟩ := Option.isSome_iff_exists.1 h
    exact List.mem_map.2 ⟨_, aget_mem hv, rfl⟩

set_option maxRecDepth 100000 in
theorem collectTm_calls (hA : AppTm) {c m : Nat} {es : List (Int × Int)} (hc : w.cell? ⟨c, 0, none⟩ = some (.map (some m))) (hm : MapSt .u64 uV w m es) (hk : Keys1 es) (hwf : ∀ p ∈ es, (Lit.int .u64 p.1).wf = true) (hl : es.length ≤ 1000) :
    Calls Tryz.prog 201 #[keysV 228 c] w fun e w' => ∃ (v : Value) (ss : List Int), e = .returned v ∧ ss.Perm (es.map (·.1)) ∧ w'.ownsRow w.heap.size 22 1 v ss.length (ss.map (Value.int .u64)) ∧ Below w.heap.size w w' := by
  have ha := hA w c m es hc hm hk hwf hl
  clear hc hm hk hwf hl hA
  unfold keysV at ha ⊢
  go_enter Tryz.func201, Tryz.ntmps201
  go_wp2_with (go_at_call 230; refine ha.mono ?_; clear ha; rintro e w1 ⟨v, ss, he, hp, ho, b1⟩; subst he)
  go_ret
  exact ⟨v, ss, rfl, hp, ho, b1⟩

end Go.Proofs.YtbdnlaepeladbaaGreatDoor

namespace Go.Proofs.YtbdnlaepeladbaaGreatDoor
open Go.ChangeShapes Go.WideShapes Go.ChangeAt Go.RowKit Go.Eng

variable {w w' : World} {wl mt : Nat} {tm : List (Int × Int)}

set_option maxRecDepth 100000 in
theorem sortedFunc_calls (hA : AppTm) (hSo : SortFuncOwn) {c c2 : Nat} (hc : w.cell? ⟨c, 0, none⟩ = some (.map (some mt))) (hc2 : w.cell? ⟨c2, 0, none⟩ = some (.pointer (some ⟨wl, 0, none⟩))) (h : WhAt w wl mt tm) (hwf : ∀ p ∈ tm, (Lit.int .u64 p.1).wf = true) (hl : tm.length ≤ 1000) :
    Calls Tryz.prog 196 #[keysV 228 c, keysV 198 c2] w fun e w' => ∃ a cap L, e = .returned (.slice a (List.length L) cap) ∧ IsKeys tm L ∧ IdsAt w' a L ∧ Below w.heap.size w w' := by
  have ha := collectTm_calls hA hc h.tt h.kt hwf hl
  have HS := aside_of (And.intro hSo (And.intro hl (And.intro h hc2)))
  have cl : c2 < w.heap.size := World.block_lt_of_cell? _ _ hc2
  have HC := aside_of cl
  clear hc hc2 h hwf hl hA hSo cl
  unfold keysV at ha ⊢
  go_enter Tryz.func196, Tryz.ntmps196
  go_wp2_with (first
    | (go_at_call 201; refine ha.mono ?_; clear ha; rintro e w1 ⟨v, ss, he, hp, ho, b1⟩; subst he; have hs := HS.out.1 w1 w.heap.size c2 wl mt tm v ss (cell_below b1 HS.out.2.2.2) (HS.out.2.2.1.below b1) HC.out HS.out.2.2.1.lt HS.out.2.2.1.tt.lt ho (by rw [hp.length_eq, List.length_map]; exact HS.out.2.1) (by
        intro z hz
        obtain ⟨p, hp2, rfl⟩ := List.mem_map.1 (hp.mem_iff.1 hz)
        rw [Keys1.get HS.out.2.2.1.kt hp2]; rfl))
    | (go_at_call 227; unfold keysV at hs; refine hs.mono ?_; clear hs; rintro e w2 ⟨he, ys, hy, hsd, hoy, b2⟩; subst he))
  obtain ⟨a, cap, rfl⟩ := own_shapeU hoy
  go_ret
  exact ⟨a, cap, ys, rfl, isKeys_of HS.out.2.2.1.kt HS.out.2.1 hp hy hsd, .of_own hoy, b1.trans b2⟩

set_option maxRecDepth 100000 in
theorem keysW_of (hA : AppTm) (hSo : SortFuncOwn) (w : World) (wl mt : Nat) (tm : List (Int × Int)) (h : WhAt w wl mt tm) (hwf : ∀ p ∈ tm, (Lit.int .u64 p.1).wf = true) (hl : tm.length ≤ 1000) :
    Calls Tryz.prog 160 #[.pointer (some ⟨wl, 0, none⟩)] w fun e w' => ∃ a cap L, e = .returned (.slice a (List.length L) cap) ∧ IsKeys tm L ∧ IdsAt w' a L ∧ Below w.heap.size w w' := by
  have ba := below_alloc w (.cells #[.pointer (some ⟨wl, 0, none⟩)] 132)
  have hc2 : (w.alloc (.cells #[.pointer (some ⟨wl, 0, none⟩)] 132)).cell? ⟨w.heap.size, 0, none⟩ = some (.pointer (some ⟨wl, 0, none⟩)) := by simp only [World.cell?]; rw [heap_new]; rfl
  have h1 := h.below ba
  have q0 := h1.q0
  have hk := keysT_calls (w := w.alloc (.cells #[.pointer (some ⟨wl, 0, none⟩)] 132)) mt
  have HS := aside_of (And.intro h1 (And.intro hc2 (And.intro hA (And.intro hSo (And.intro hwf (And.intro hl ba))))))
  clear h h1 ba hA hSo hwf hl
  unfold keysV at hk
  go_enter Tryz.func160, Tryz.ntmps160
  go_wp2_with (first
    | (go_at_call 197; refine hk.mono ?_; clear hk; rintro e w1 ⟨c, he, hc, b1⟩; subst he; have hs := sortedFunc_calls HS.out.2.2.1 HS.out.2.2.2.1 hc (cell_below b1 HS.out.2.1) (HS.out.1.below b1) HS.out.2.2.2.2.1 HS.out.2.2.2.2.2.1)
    | (go_at_call 196; unfold keysV at hs; refine hs.mono ?_; clear hs; rintro e w2 ⟨a, cap, L, he, hL, hI, b2⟩; subst he))
  go_ret
  have b3 := HS.out.2.2.2.2.2.2.trans (b1.mono (by simp))
  exact ⟨a, cap, L, rfl, hL, hI, b3.trans (b2.mono b3.size)⟩

end Go.Proofs.YtbdnlaepeladbaaGreatDoor

namespace Go.Proofs.YtbdnlaepeladbaaGreatDoor
open Go.ChangeShapes Go.WideShapes Go.ChangeAt Go.RowKit Go.Eng

def cmpI (a b : Int) : Int := if a < b then -1 else if b < a then 1 else 0

set_option maxRecDepth 100000 in
theorem compare_calls (w : World) (a b : Int) :
    Calls Tryz.prog 200 #[.int .u64 a, .int .u64 b] w fun e w' => e = .returned (.int .i64 (cmpI a b)) ∧ w' = w := by
  unfold cmpI
  by_cases h1 : a < b
  · have h2 : ¬ b < a := by omega
    simp only [h1, if_true]
    go_enter Tryz.func200, Tryz.ntmps200
    go_wp2
    go_ret
    exact ⟨rfl, rfl⟩
  · by_cases h2 : b < a
    · simp only [h1, h2, if_true, if_false]
      go_enter Tryz.func200, Tryz.ntmps200
      go_wp2
      go_ret
      exact ⟨rfl, rfl⟩
    · simp only [h1, h2, if_false]
      go_enter Tryz.func200, Tryz.ntmps200
      go_wp2
      go_ret
      exact ⟨rfl, rfl⟩

end Go.Proofs.YtbdnlaepeladbaaGreatDoor

namespace Go.Proofs.YtbdnlaepeladbaaGreatDoor
open Go.ChangeShapes Go.WideShapes Go.ChangeAt Go.RowKit Go.Eng

set_option maxRecDepth 100000 in
theorem or_calls (w : World) (p : Nat) (x y : Int) (hx : w.cell? ⟨p, 0, none⟩ = some (.int .i64 x)) (hy : w.cell? ⟨p, 1, none⟩ = some (.int .i64 y)) :
    Calls Tryz.prog 199 #[.slice (some ⟨p, 0, none⟩) 2 2] w fun e w' => e = .returned (.int .i64 (if x = 0 then y else x)) ∧ w' = w := by
  have hy0 : y = 0 ∨ ¬ y = 0 := Classical.em _
  go_enter Tryz.func199, Tryz.ntmps199
  go_wp2
  go_loopg [8] 2 (fun gh v8 wr => ∃ j : Nat, j ≤ 2 ∧ gh = 2 - j ∧ v8 = .int .i64 j ∧ wr = w ∧ (0 < j → x = 0) ∧ (1 < j → y = 0))
  case atStart => exact ⟨0, by omega, rfl, rfl, rfl, by omega, by omega⟩
  case round =>
    obtain ⟨j, hj, rfl, rfl, rfl, h0, h1⟩ := hrel
    have hj3 : j = 0 ∨ j = 1 ∨ j = 2 := by omega
    rcases hj3 with rfl | rfl | rfl
    · by_cases hx0 : x = 0
      · subst hx0
        go_wp2
        go_roundg 1
        case measure => omega
        case rel => exact ⟨1, by omega, rfl, rfl, rfl, by simp, by omega⟩
      · have g : (x != 0) = true := by simpa using hx0
        go_wp2
        go_ret
        exact ⟨by simp, rfl⟩
    · obtain rfl : x = 0 := h0 (by omega)
      rcases hy0 with rfl | hy0
      · go_wp2
        go_roundg 0
        case measure => omega
        case rel => exact ⟨2, by omega, rfl, rfl, rfl, by simp, by simp⟩
      · have g : (y != 0) = true := by simpa using hy0
        go_wp2
        go_ret
        exact ⟨by simp, rfl⟩
    · obtain rfl : x = 0 := h0 (by omega)
      obtain rfl : y = 0 := h1 (by omega)
      go_wp2
      go_ret
      exact ⟨by simp, rfl⟩

end Go.Proofs.YtbdnlaepeladbaaGreatDoor

namespace Go.Proofs.YtbdnlaepeladbaaGreatDoor
open Go.ChangeShapes Go.WideShapes Go.ChangeAt Go.RowKit Go.Eng

variable {w w' : World} {wl mt : Nat} {tm : List (Int × Int)}

def keyCmp (tm : List (Int × Int)) (a b : Int) : Int := if cmpI ((aget a tm).getD 0) ((aget b tm).getD 0) = 0 then cmpI a b else cmpI ((aget a tm).getD 0) ((aget b tm).getD 0)

theorem two_cells (w : World) (x y : Int) (t : TypeId) : (w.alloc (.cells #[.int .i64 x, .int .i64 y] t)).cell? ⟨w.heap.size, 0, none⟩ = some (.int .i64 x) ∧ (w.alloc (.cells #[.int .i64 x, .int .i64 y] t)).cell? ⟨w.heap.size, 1, none⟩ = some (.int .i64 y) := by
  refine ⟨?_, ?_⟩
  all_goals
    simp only [World.cell?]
    rw [heap_new]
    rfl

set_option maxHeartbeats 1000000 in
set_option maxRecDepth 1000000 in
theorem keys1_calls {c : Nat} (hc : w.cell? ⟨c, 0, none⟩ = some (.pointer (some ⟨wl, 0, none⟩))) (h : WhAt w wl mt tm) (a b : Int) :
    Calls Tryz.prog 198 #[.int .u64 a, .int .u64 b, .pointer (some ⟨c, 0, none⟩)] w fun e w' => e = .returned (.int .i64 (keyCmp tm a b)) ∧ ∃ q os, w' = Go.Sort.grow (w.drewN q) os := by
  have hd := h.below (below_drew w)
  have hc1 : w.drew.cell? ⟨c, 0, none⟩ = some (.pointer (some ⟨wl, 0, none⟩)) := hc
  have q0 := hd.q0
  have hla := look_tm0 hd a
  have hlb := look_tm0 hd b
  unfold keyCmp
  generalize (aget a tm).getD 0 = x at hla ⊢
  generalize (aget b tm).getD 0 = y at hlb ⊢
  have c1 := compare_calls w.drew x y
  have c2 := compare_calls w.drew a b
  generalize cmpI x y = p at c1 ⊢
  generalize cmpI a b = q at c2 ⊢
  have HB := aside_of (below_drew w)
  clear h hd hc
  go_enter Tryz.func198, Tryz.ntmps198
  go_upto_region 1 with fail
  refine wp_region_still_tail 16 (by kernel_rfl) (by kernel_rfl) ?_
  simp only [List.take_succ_cons, List.take_zero, List.drop_succ_cons, List.drop_zero]
  repeat still_step
  still_call c1
  repeat still_step
  still_call c2
  refine wpStill_nil ?_
  change wpList _ _ _ _ _ w.drew
  have ho := or_calls (w.drew.alloc (.cells #[.int .i64 p, .int .i64 q] 3)) w.drew.heap.size p q (two_cells w.drew p q 3).1 (two_cells w.drew p q 3).2
  go_wp2_with (go_at_call 199; refine ho.mono ?_; clear ho; rintro e w5 ⟨he, hw⟩; subst he; subst hw)
  all_goals
    go_ret
    exact ⟨rfl, 1, _, (congrArg World.drew (Go.Sort.alloc_eq_grow w _)).trans (Go.Sort.drew_grow w _)⟩

end Go.Proofs.YtbdnlaepeladbaaGreatDoor

namespace Go.Proofs.YtbdnlaepeladbaaGreatDoor
open Go.ChangeShapes Go.WideShapes Go.ChangeAt Go.RowKit Go.Eng

theorem keyCmp_lt (tm : List (Int × Int)) (x y : Int) : keyCmp tm x y < 0 ↔ (aget x tm).getD 0 < (aget y tm).getD 0 ∨ ((aget x tm).getD 0 = (aget y tm).getD 0 ∧ x < y) := by
  unfold keyCmp cmpI
  generalize (aget x tm).getD 0 = a
  generalize (aget y tm).getD 0 = b
  by_cases h1 : a < b
  · simp [h1]
  · by_cases h2 : b < a
    · have h3 : a ≠ b := by omega
      simp [h1, h2, h3]
    · have h3 : a = b := by omega
      subst h3
      by_cases h4 : x < y
      · simp [h4]
      · by_cases h5 : y < x
        · simp [h4, h5]
        · simp [h4, h5]

theorem key_irrefl (tm : List (Int × Int)) (x : Int) : ¬ keyCmp tm x x < 0 := by rw [keyCmp_lt]; omega
theorem key_trans (tm : List (Int × Int)) (x y z : Int) (h1 : keyCmp tm x y < 0) (h2 : keyCmp tm y z < 0) : keyCmp tm x z < 0 := by rw [keyCmp_lt] at *; omega
theorem key_ntrans (tm : List (Int × Int)) (x y z : Int) (h1 : ¬ keyCmp tm x y < 0) (h2 : ¬ keyCmp tm y z < 0) : ¬ keyCmp tm x z < 0 := by rw [keyCmp_lt] at *; omega
theorem key_total (tm : List (Int × Int)) (x y : Int) (h1 : ¬ keyCmp tm x y < 0) (h2 : ¬ keyCmp tm y x < 0) : x = y := by rw [keyCmp_lt] at *; omega
theorem key_le (tm : List (Int × Int)) (x y : Int) (h : ¬ keyCmp tm y x < 0) : KeyLe tm x y := by rw [keyCmp_lt] at h; unfold KeyLe; omega

end Go.Proofs.YtbdnlaepeladbaaGreatDoor
