/- Sorted by ratio.Cmp: two sorted lists of the same floats are the same, word by word but for what is nothing; and the steps of the law, each in whatever world. Conditions: none. -/
import Derived.Test.YticoedgefeeikaaGreatCm
import Derived.Shelf.SlSortCmp.NoneTotal
import Derived.Test.YticoedgefeeikaaGreatLay
namespace Go.Proofs.YticoedgefeeikaaGreat
open Go.ChangeShapes Go.WideShapes Go.ChangeAt Go.RowKit Go.Eng

def encW (x : UInt64) : Value := .float .f64 x.toNat
def cfW (x y : UInt64) : Int := cmpI x.toNat y.toNat
def kW (x : UInt64) : Int := keyN x.toNat

theorem ltW (x y : UInt64) : ltOf cfW x y = decide (kW x < kW y) := by
  unfold ltOf cfW cmpI kW
  rcases Int.lt_trichotomy (keyN x.toNat) (keyN y.toNat) with h | h | h
  · rw [compareInt_lt h]; simp [h]
  · rw [compareInt_eq h, h]; simp
  · rw [compareInt_gt h]
    have : ¬ keyN x.toNat < keyN y.toNat := by omega
    simp [this]

theorem swoW : Go.Sort.SWO (ltOf cfW) where
  irrefl x := by rw [ltW]; simp
  trans x y z h1 h2 := by rw [ltW] at *; simp at *; omega
  ntrans x y z h1 h2 := by rw [ltW] at *; simp at *; omega

theorem cmpLays (blk off size : Nat) (w : World) : CmpLays1 Tryz.prog 9 #[] encW cfW blk off size w := by
  intro m os dk hs x y
  refine (cmp_calls x.toNat_lt y.toNat_lt _).mono ?_
  rintro e w' ⟨rfl, h⟩
  refine ⟨rfl, ?_⟩
  rcases h with rfl | ⟨o, rfl⟩
  · exact ⟨0, #[], by rw [Go.Sort.grow_empty]; rfl⟩
  · exact ⟨0, #[o], by rw [Go.Sort.alloc_eq_grow]; rfl⟩

/-- The words d lie at the head of block g. -/
def Rw (w : World) (g : Nat) (d : Array UInt64) : Prop := Go.Sort.Holds encW w g 0 d ∧ g < w.heap.size

theorem Rw.cell {w : World} {g : Nat} {d : Array UInt64} (h : Rw w g d) (j : Nat) (hj : j < d.size) : w.cell? ⟨g, j, none⟩ = some (.float .f64 d[j]!.toNat) := by
  have := (h.1 j hj).1
  rw [Nat.zero_add] at this
  exact this

theorem Rw.below {w w' : World} {g B : Nat} {d : Array UInt64} (h : Rw w g d) (hb : Below B w w') (hg : g < B) : Rw w' g d :=
  ⟨fun j hj => by
    have := h.1 j hj
    exact ⟨(hb.cell (by exact hg)).trans this.1, (hb.frozen (by exact hg)).trans this.2⟩, Nat.lt_of_lt_of_le h.2 hb.size⟩

theorem Rw.sorted {w : World} {g m : Nat} {d d0 : Array UInt64} {os : Array Obj} (h : Rw w g d0) (hs : d.size = d0.size) : Rw (sortWorld encW w g 0 m d os) g d :=
  have s : SW encW w g 0 d (sortWorld encW w g 0 m d os) := ⟨m, os, rfl⟩
  ⟨s.holds h.2 h.1 hs, s.lt h.2⟩

theorem heap_sort {w : World} {g m k : Nat} {d : Array UInt64} {os : Array Obj} (hk : k < w.heap.size) (hne : k ≠ g) : (sortWorld encW w g 0 m d os).heap[k]? = w.heap[k]? := by
  unfold sortWorld
  rw [Go.Sort.heap_grow_old _ _ (by rw [size_putRow]; exact hk)]
  simp only [Go.Sort.putRow, Go.Sort.mapBlock, Go.Sort.ahead, Array.getElem?_modify]
  rw [if_neg (fun e => hne e.symm)]

theorem below_sort {w : World} {B g m : Nat} {d : Array UInt64} {os : Array Obj} (hg : B ≤ g) (hB : B ≤ w.heap.size) : Below B w (sortWorld encW w g 0 m d os) :=
  ⟨rfl, rfl, rfl, by unfold sortWorld; rw [Go.Sort.size_grow, size_putRow]; exact Nat.le_add_right _ _, fun k hk => heap_sort (by omega) (by omega)⟩

theorem Rw.other {w : World} {g b m : Nat} {x d : Array UInt64} {os : Array Obj} (h : Rw w g x) (hne : g ≠ b) : Rw (sortWorld encW w b 0 m d os) g x := by
  have e := heap_sort (m := m) (d := d) (os := os) h.2 hne
  refine ⟨fun j hj => ?_, ?_⟩
  · have := h.1 j hj
    exact ⟨(World.cell?_of_block e).trans this.1, (World.frozen?_of_block e).trans this.2⟩
  · unfold sortWorld; rw [Go.Sort.size_grow, size_putRow]; exact Nat.lt_of_lt_of_le h.2 (Nat.le_add_right _ _)

theorem Rw.of_own {w : World} {base n : Nat} {v : Value} {xs : List UInt64} (h : w.ownsRow base 27 1 v n (xs.map encW)) (hn : 0 < n) :
    xs.length = n ∧ ∃ g cap, v = .slice (some ⟨g, 0, none⟩) n cap ∧ base ≤ g ∧ n ≤ cap ∧ Rw w g xs.toArray := by
  have hl : xs.length = n := by have := h.1; simpa using this
  refine ⟨hl, ?_⟩
  rcases h.2 with ⟨_, h0⟩ | ⟨g, cap, cur, rfl, hb, hg, hcap, _, hs, ht⟩
  · omega
  · refine ⟨g, cap, rfl, hb, hcap, fun j hj => ?_, (Array.getElem?_eq_some_iff.1 hg).1⟩
    have hj' : j < xs.length := by simpa using hj
    rw [Nat.zero_add]
    have hc : w.cell? ⟨g, j, none⟩ = cur[j]? := by simp only [World.cell?, hg]; rfl
    have hf : w.frozen? ⟨g, j, none⟩ = false := by simp only [World.frozen?, hg]; simp
    refine ⟨?_, hf⟩
    rw [hc]
    have e : (cur.toList.take (n * 1))[j]? = (xs.map encW)[j]? := by rw [ht]
    rw [List.getElem?_take, if_pos (by omega), List.getElem?_map] at e
    rw [← Array.getElem?_toList, e]
    simp [hj']

/-! ### the plain law -/

theorem sorted_keys {d : Array UInt64} {n : Nat} (_hs : d.size = n) (h : Go.Sort.SortedIn (ltOf cfW) 0 n d) {i j : Nat} (hij : i ≤ j) (hj : j < n) : kW d[i]! ≤ kW d[j]! := by
  rcases Nat.lt_or_eq_of_le hij with g | rfl
  · have := h i j (Nat.zero_le _) g hj
    rw [ltW] at this; simpa using this
  · exact Int.le_refl _

theorem keys_pairwise {d : Array UInt64} {n : Nat} (hs : d.size = n) (h : Go.Sort.SortedIn (ltOf cfW) 0 n d) : (d.toList.map kW).Pairwise (· ≤ ·) := by
  rw [List.pairwise_iff_getElem]
  intro i j hi hj hij
  have hj' : j < d.size := by simpa using hj
  have := sorted_keys hs h (Nat.le_of_lt hij) (by omega)
  simp only [List.getElem_map, Array.getElem_toList]
  rwa [getElem!_pos d i (by omega), getElem!_pos d j hj'] at this

theorem perm_keys {d d' : Array UInt64} {n : Nat} (hs : d.size = n) (h : Go.Sort.PermIn 0 n d d') : (d'.toList.map kW).Perm (d.toList.map kW) := by
  have e1 : d'.extract 0 n = d' := by rw [← hs, ← h.1]; simp
  have e2 : d.extract 0 n = d := by rw [← hs]; simp
  have := h.2.2
  rw [e1, e2] at this
  exact this.map kW

theorem keys_one {d0 d1 d2 : Array UInt64} {n : Nat} (hn : d0.size = n) (p1 : Go.Sort.PermIn 0 n d0 d1) (s1 : Go.Sort.SortedIn (ltOf cfW) 0 n d1)
    (p2 : Go.Sort.PermIn 0 n d0.reverse d2) (s2 : Go.Sort.SortedIn (ltOf cfW) 0 n d2) : ∀ j, j < n → kW d1[j]! = kW d2[j]! := by
  have hr : d0.reverse.size = n := by simp [hn]
  have z1 : d1.size = n := p1.1.trans hn
  have z2 : d2.size = n := p2.1.trans hr
  have q : (d1.toList.map kW).Perm (d2.toList.map kW) := by
    refine (perm_keys hn p1).trans (.trans ?_ (perm_keys hr p2).symm)
    rw [Array.toList_reverse, List.map_reverse]
    exact (List.reverse_perm _).symm
  have e := eq_of_ordered _ _ q (keys_pairwise z1 s1) (keys_pairwise z2 s2)
  intro j hj
  have : (d1.toList.map kW)[j]? = (d2.toList.map kW)[j]? := by rw [e]
  rw [List.getElem?_map, List.getElem?_map, Array.getElem?_toList, Array.getElem?_toList, Array.getElem?_eq_getElem (by omega), Array.getElem?_eq_getElem (by omega)] at this
  rw [getElem!_pos d1 j (by omega), getElem!_pos d2 j (by omega)]
  simpa using this

/-- A word and one behind it: how ratio.Cmp answers. -/
theorem cmpI_le {x y : Nat} (h : keyN x ≤ keyN y) : ¬ 0 < cmpI x y ∧ cmpI x y = -cmpI y x := by
  unfold cmpI
  rcases Int.lt_or_eq_of_le h with g | g
  · rw [compareInt_lt g, compareInt_gt g]; decide
  · rw [compareInt_eq g, compareInt_eq g.symm]; decide

end Go.Proofs.YticoedgefeeikaaGreat

namespace Go.Proofs.YticoedgefeeikaaGreat
open Go.ChangeShapes Go.WideShapes Go.ChangeAt Go.RowKit Go.Eng

/-- The words that a list of numbers makes. -/
def words (zs : List Int) (n : Nat) : List UInt64 := (zs.take n).map fun z => UInt64.ofNat z.toNat

theorem enc_word {z : Int} (h0 : 0 ≤ z) (h1 : z < 18446744073709551616) : encW (UInt64.ofNat z.toNat) = fl z := by
  unfold encW fl
  rw [UInt64.toNat_ofNat', Nat.mod_eq_of_lt (by omega)]

theorem fl_words {zs : List Int} {n : Nat} (h : ∀ z ∈ zs, 0 ≤ z ∧ z < 18446744073709551616) : (zs.take n).map fl = (words zs n).map encW := by
  unfold words
  rw [List.map_map]
  exact List.map_congr_left fun z hz => (enc_word (h z (List.mem_of_mem_take hz)).1 (h z (List.mem_of_mem_take hz)).2).symm

theorem words_length {zs : List Int} {n : Nat} (h : n ≤ zs.length) : (words zs n).length = n := by unfold words; simp; omega

/-! ### the steps, each in whatever world -/

theorem stage1 {B b off n c : Nat} {zs : List Int} {W w : World} (hB : B = W.heap.size) (hz : n ≤ zs.length) (hn : n ≤ 60) (h0 : 0 < n) (hb : b < B) (hw : ∀ z ∈ zs, 0 ≤ z ∧ z < 18446744073709551616)
    (hc : ∀ j, j < zs.length → W.cell? ⟨b, off + j, none⟩ = some (.int .u64 (zs.getD j 0))) (hbl : Below B W w) :
    Calls Tryz.prog 5 #[.slice (some ⟨b, off, none⟩) n c] w fun e w' => ∃ g cap, e = .returned (.slice (some ⟨g, 0, none⟩) n cap) ∧ B ≤ g ∧ n ≤ cap ∧ Rw w' g (words zs n).toArray ∧ Below B W w' := by
  have hs := hbl.size
  refine (floats_calls b off n c zs w hz hn (by omega) (fun j hj => (hbl.cell (by exact hb)).trans (hc j hj))).mono ?_
  rintro e w' ⟨v, rfl, hown, h2⟩
  rw [fl_words hw] at hown
  obtain ⟨_, g, cap, rfl, hg, hcp, hr⟩ := Rw.of_own hown h0
  exact ⟨g, cap, rfl, by omega, hcp, hr, hbl.trans (h2.mono (by omega))⟩

theorem size27 : ∀ w, (Go.sizeOf 27).run Tryz.prog w = .ok 1 w := Tryz.sizeOf27

theorem stage2 {B g n cap : Nat} {d : Array UInt64} {W w : World} (hB : B ≤ w.heap.size) (hd : d.size = n) (hn : n ≤ 60) (h0 : 0 < n) (hr : Rw w g d) (hbl : Below B W w) :
    Calls Tryz.prog 6 #[.slice (some ⟨g, 0, none⟩) n cap] w fun e w' => ∃ g2 cap2, e = .returned (.slice (some ⟨g2, 0, none⟩) n cap2) ∧ B ≤ g2 ∧ g ≠ g2 ∧ Rw w' g2 d ∧ Rw w' g d ∧ Below B W w' := by
  obtain ⟨i0, hi, hz0, hz1, hz2⟩ := info_parts info27
  have h := AnyE.slices_Clone Tryz.cloneL i0 (.float .f64 0) 1 8 hi hz0 hz1 hz2 rfl (by decide) size27 g 0 n cap (d.toList.map encW) w (by simp [hd]) (by unfold maxLen; omega) (by omega)
    (fun j u hj => by
      rw [List.getElem?_map, Array.getElem?_toList] at hj
      have hj' : j < d.size := by
        rcases Nat.lt_or_ge j d.size with h | h
        · exact h
        · rw [Array.getElem?_eq_none h] at hj; cases hj
      have := (hr.1 j hj').1
      rw [this, ← hj, Array.getElem?_eq_getElem hj', getElem!_pos d j hj']; rfl)
    (fun u hu => by obtain ⟨x, _, rfl⟩ := List.mem_map.1 hu; rfl)
  refine h.mono ?_
  rintro e w' ⟨v, rfl, hown, _, h2⟩
  change w'.ownsRow w.heap.size 27 1 v n _ at hown
  obtain ⟨_, g2, cap2, rfl, hg2, _, hr2⟩ := Rw.of_own hown h0
  rw [Array.toArray_toList] at hr2
  have := hr.2
  exact ⟨g2, cap2, rfl, by omega, by omega, hr2, hr.below h2 hr.2, hbl.trans (h2.mono hB)⟩

theorem stage3 {B g g1 n cap : Nat} {d : Array UInt64} {W w : World} (hB : B ≤ w.heap.size) (hg : B ≤ g) (hne : g1 ≠ g) (hd : d.size = n) (hn : n ≤ 60) (hr : Rw w g d) (hr1 : Rw w g1 d) (hbl : Below B W w) :
    Calls Tryz.prog 7 #[.slice (some ⟨g, 0, none⟩) n cap] w fun e w' => e = .returned (.tuple #[]) ∧ Rw w' g d.reverse ∧ Rw w' g1 d ∧ Below B W w' ∧ B ≤ w'.heap.size := by
  have h := AnyE.slices_Reverse_arr Tryz.revL encW (fun _ => rfl) g 0 cap d w hr.1 (by omega)
  rw [hd] at h
  refine h.mono ?_
  rintro e w' ⟨rfl, m, rfl⟩
  have e1 : Go.Sort.putRow encW (Go.Sort.ahead w m) g 0 d.reverse = sortWorld encW w g 0 m d.reverse #[] := by unfold sortWorld; rw [Go.Sort.grow_empty]
  rw [e1]
  exact ⟨rfl, hr.sorted (by simp), hr1.other hne, hbl.trans (below_sort hg hB), by unfold sortWorld; rw [Go.Sort.size_grow, size_putRow]; exact Nat.le_trans hB (Nat.le_add_right _ _)⟩

theorem stage4 {B g g1 n cap : Nat} {d d1 : Array UInt64} {W w : World} (hB : B ≤ w.heap.size) (hg : B ≤ g) (hne : g1 ≠ g) (hd : d.size = n) (hn : n ≤ 60) (hr : Rw w g d) (hr1 : Rw w g1 d1) (hbl : Below B W w) :
    Calls Tryz.prog 8 #[.slice (some ⟨g, 0, none⟩) n cap, .func (.func 9) #[] #[]] w fun e w' => e = .returned (.tuple #[]) ∧ ∃ d', d'.size = n ∧ Go.Sort.PermIn 0 n d d' ∧ Go.Sort.SortedIn (ltOf cfW) 0 n d' ∧ Rw w' g d' ∧ Rw w' g1 d1 ∧ Below B W w' ∧ B ≤ w'.heap.size := by
  have eg : ∀ args w, (callFunc 9 args).run Tryz.prog w = .ok (.enter 9 args) w := enters_of Tryz.func9 (by kernel_rfl) rfl
  have h := Any.slices_SortFunc Tryz.sortL encW (fun _ => rfl) cfW swoW 9 #[] g 0 cap d w eg (cmpLays g 0 d.size w) hr.1 hr.2 (by omega)
  rw [hd] at h
  refine h.mono ?_
  rintro e w' ⟨rfl, d', m, os, hp, hs, rfl⟩
  refine ⟨rfl, d', hp.1.trans hd, hp, hs, hr.sorted hp.1, hr1.other hne, hbl.trans (below_sort hg hB), ?_⟩
  unfold sortWorld; rw [Go.Sort.size_grow, size_putRow]; exact Nat.le_trans hB (Nat.le_add_right _ _)

/-- ratio.Cmp, from a world that keeps what w holds to one that does. -/
theorem cmp_keeps {B : Nat} {w : World} {x y : Nat} {r : Int} (hx : x < 18446744073709551616) (hy : y < 18446744073709551616) (hr : cmpI x y = r) {w1 : World} (h : Below B w w1) (hB : B ≤ w.heap.size) :
    Calls Tryz.prog 9 #[.float .f64 x, .float .f64 y] w1 fun e w' => e = .returned (.int .i64 r) ∧ Below B w w' := by
  refine (cmp_calls hx hy w1).mono ?_
  rintro e w' ⟨rfl, hw⟩
  refine ⟨by rw [hr], ?_⟩
  rcases hw with rfl | ⟨o, rfl⟩
  · exact h
  · exact h.alloc (Nat.le_trans hB h.size) o

end Go.Proofs.YticoedgefeeikaaGreat
