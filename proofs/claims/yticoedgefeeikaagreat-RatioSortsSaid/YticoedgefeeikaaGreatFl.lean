/- Rounding of float64 is monotone, and what a part of a number is. Conditions: none. -/
import Derived.Laws.FloatArith
namespace Go.Eng
open Ieee

/-! ### rounding, as a plain function -/

def rnd (n d : Nat) : Nat := n / d + (if d < 2 * (n % d) ∨ (d = 2 * (n % d) ∧ n / d % 2 = 1) then 1 else 0)

theorem cut_even (neg : Bool) (n drop : Nat) : Toward.even.cut neg n drop = rnd n (2 ^ drop) := by
  have two : ∀ k, (1 <<< k : Nat) = 2 ^ k := fun k => by simp [Nat.shiftLeft_eq]
  unfold Toward.cut rnd
  simp only [two]
  by_cases h : drop ≤ n.log2 + 2
  · rw [Nat.min_eq_left h]
    congr 1
    by_cases c1 : 2 ^ drop < 2 * (n % 2 ^ drop)
    · simp [c1]
    · by_cases c2 : 2 ^ drop = 2 * (n % 2 ^ drop)
      · by_cases c3 : n / 2 ^ drop % 2 = 1
        · have : (2 ^ drop == 2 * (n % 2 ^ drop)) = true := by simpa using c2
          simp only [this, c3]; simp [← c2]
        · have : (n / 2 ^ drop % 2 == 1) = false := by simpa using c3
          simp only [this]; simp [c1, c3]
      · have : (2 ^ drop == 2 * (n % 2 ^ drop)) = false := by simpa using c2
        simp only [this]; simp [c1, c2]
  · have hlt : n < 2 ^ (n.log2 + 1) := Nat.lt_log2_self
    have h1 : 2 ^ (n.log2 + 2) = 2 * 2 ^ (n.log2 + 1) := by rw [Nat.pow_succ 2 (n.log2 + 1), Nat.mul_comm]
    have h2 : 2 ^ (n.log2 + 2) ≤ 2 ^ drop := Nat.pow_le_pow_right (by decide) (by omega)
    rw [Nat.min_eq_right (by omega)]
    have hl1 : n < 2 ^ (n.log2 + 2) := by omega
    have hl2 : n < 2 ^ drop := by omega
    rw [Nat.div_eq_of_lt hl1, Nat.mod_eq_of_lt hl1, Nat.div_eq_of_lt hl2, Nat.mod_eq_of_lt hl2]
    have e1 : (2 ^ (n.log2 + 2) == 2 * n) = false := by simp; omega
    have e2 : decide (2 ^ (n.log2 + 2) < 2 * n) = false := by simp; omega
    rw [e1, e2, if_neg (by omega)]
    rfl

theorem rnd_scale {n d c : Nat} (hc : 0 < c) : rnd (n * c) (d * c) = rnd n d := by
  unfold rnd
  rw [Nat.mul_div_mul_right _ _ hc, Nat.mul_mod_mul_right]
  congr 1
  have e1 : d * c < 2 * (n % d * c) ↔ d < 2 * (n % d) := by
    rw [← Nat.mul_assoc]; exact Nat.mul_lt_mul_right hc
  have e2 : d * c = 2 * (n % d * c) ↔ d = 2 * (n % d) := by
    rw [← Nat.mul_assoc]; exact Nat.mul_left_inj (by omega)
  simp only [e1, e2]

theorem rnd_le_succ (n d : Nat) : rnd n d ≤ n / d + 1 := by unfold rnd; split <;> omega
theorem le_rnd (n d : Nat) : n / d ≤ rnd n d := by unfold rnd; split <;> omega

theorem rnd_mono {n m d : Nat} (_ : 0 < d) (h : n ≤ m) : rnd n d ≤ rnd m d := by
  have hq := Nat.div_le_div_right (c := d) h
  rcases Nat.lt_or_ge (n / d) (m / d) with hlt | hge
  · exact Nat.le_trans (rnd_le_succ n d) (Nat.le_trans hlt (le_rnd m d))
  · have he : n / d = m / d := by omega
    have h1 := Nat.div_add_mod n d
    have h2 := Nat.div_add_mod m d
    rw [he] at h1
    have hr : n % d ≤ m % d := by omega
    unfold rnd
    rw [he]
    split
    · rename_i hc
      split
      · omega
      · rename_i hn; omega
    · split <;> omega

theorem rnd_mul {k d : Nat} (hd : 0 < d) : rnd (k * d) d = k := by
  unfold rnd
  rw [Nat.mul_div_cancel _ hd, Nat.mul_mod_left]
  rw [if_neg (by omega)]; rfl

theorem rnd_le {n k d : Nat} (hd : 0 < d) (h : n ≤ k * d) : rnd n d ≤ k := by
  have := rnd_mono hd h
  rwa [rnd_mul hd] at this
theorem le_rnd_of {n k d : Nat} (hd : 0 < d) (h : k * d ≤ n) : k ≤ rnd n d := by
  have := rnd_mono hd h
  rwa [rnd_mul hd] at this

theorem log2_scale {n k : Nat} (hn : n ≠ 0) : (n * 2 ^ k).log2 = n.log2 + k := by
  have h1 := Nat.log2_self_le hn
  have h2 : n < 2 ^ (n.log2 + 1) := Nat.lt_log2_self
  have hp : 0 < 2 ^ k := Nat.two_pow_pos k
  have hne : n * 2 ^ k ≠ 0 := Nat.mul_ne_zero hn (by omega)
  have g1 : 2 ^ (n.log2 + k) ≤ n * 2 ^ k := by rw [Nat.pow_add]; exact Nat.mul_le_mul_right _ h1
  have g2 : n * 2 ^ k < 2 ^ (n.log2 + k + 1) := by
    have : 2 ^ (n.log2 + k + 1) = 2 ^ (n.log2 + 1) * 2 ^ k := by rw [← Nat.pow_add]; congr 1; omega
    rw [this]; exact (Nat.mul_lt_mul_right hp).2 h2
  have g3 : (n * 2 ^ k).log2 < n.log2 + k + 1 := (Nat.log2_lt hne).2 g2
  have g4 : n.log2 + k ≤ (n * 2 ^ k).log2 := (Nat.le_log2 hne).2 g1
  omega

/-! ### the words of float64 -/

theorem lpD : double.leastPlace = -1074 := by decide
theorem fbD : double.fractionBits = 52 := rfl
theorem binD : double.binade = 4503599627370496 := by decide
theorem infD : double.infRung = 9218868437227405312 := by decide
theorem swD : double.signWeight = 9223372036854775808 := by decide

/-- The rung nearest to N units of '2 ^ -b', b at least 1074. -/
def rung (b N : Nat) : Nat :=
  if N = 0 then 0 else
  let last := max ((N.log2 : Int) - b - 52) (-1074)
  min ((last + 1074).toNat * 4503599627370496 + rnd N (2 ^ (last + b).toNat)) 9218868437227405312

theorem nearest_eq (mag : Nat) (place : Int) (b : Nat) (hb : 1074 ≤ b) (hp : -(b : Int) ≤ place) : double.nearest false mag place = rung b (mag * 2 ^ (place + b).toNat) := by
  unfold Format.nearest rung
  by_cases h0 : mag = 0
  · subst h0; simp [Format.word]
  · have hne : mag * 2 ^ (place + b).toNat ≠ 0 := Nat.mul_ne_zero h0 (Nat.pos_iff_ne_zero.1 (Nat.two_pow_pos _))
    rw [if_neg h0, if_neg hne]
    simp only [lpD, fbD, binD, infD, cut_even, Format.word, Bool.false_eq_true, if_false, log2_scale h0]
    have hl : (place + ↑mag.log2 - ((52 : Nat) : Int)) = ((mag.log2 + (place + ↑b).toNat : Nat) : Int) - ↑b - 52 := by omega
    rw [hl]
    generalize hlast : max (((mag.log2 + (place + ↑b).toNat : Nat) : Int) - ↑b - 52) (-1074) = last
    have hlge : -1074 ≤ last := by omega
    have hsub : (last - -1074).toNat = (last + 1074).toNat := by congr 1
    rw [hsub]
    congr 2
    rcases Int.le_total last place with g | g
    · have e1 : (last - place).toNat = 0 := by omega
      have e2 : (place + b).toNat = (place - last).toNat + (last + b).toNat := by omega
      rw [e1, e2, Nat.pow_add, ← Nat.mul_assoc]
      have hs := @rnd_scale (mag * 2 ^ (place - last).toNat) 1 (2 ^ (last + ↑b).toNat) (Nat.two_pow_pos _)
      rw [Nat.one_mul] at hs
      rw [hs, Nat.shiftLeft_eq, Nat.pow_zero]
    · have e1 : (place - last).toNat = 0 := by omega
      have e2 : (last + b).toNat = (last - place).toNat + (place + b).toNat := by omega
      rw [e1, e2, Nat.pow_add]
      have hs := @rnd_scale mag (2 ^ (last - place).toNat) (2 ^ (place + ↑b).toNat) (Nat.two_pow_pos _)
      rw [hs]; simp

theorem rung_mono {b N M : Nat} (hb : 1074 ≤ b) (h : N ≤ M) : rung b N ≤ rung b M := by
  unfold rung
  by_cases hN : N = 0
  · simp [hN]
  · have hM : M ≠ 0 := by omega
    rw [if_neg hN, if_neg hM]
    simp only
    have hlog : N.log2 ≤ M.log2 := (Nat.le_log2 hM).2 (Nat.le_trans (Nat.log2_self_le hN) h)
    generalize hlN : max ((N.log2 : Int) - b - 52) (-1074) = lN
    generalize hlM : max ((M.log2 : Int) - b - 52) (-1074) = lM
    have key : (lN + 1074).toNat * 4503599627370496 + rnd N (2 ^ (lN + b).toNat) ≤ (lM + 1074).toNat * 4503599627370496 + rnd M (2 ^ (lM + b).toNat) := by
      rcases Int.lt_or_le lN lM with hlt | hge
      · have u1 : N < 2 ^ (N.log2 + 1) := Nat.lt_log2_self
        have u2 : N ≤ 9007199254740992 * 2 ^ (lN + b).toNat := by
          have : 2 ^ (N.log2 + 1) ≤ 2 ^ (53 + (lN + b).toNat) := Nat.pow_le_pow_right (by decide) (by omega)
          rw [Nat.pow_add 2 53] at this
          have e : (2 : Nat) ^ 53 = 9007199254740992 := by decide
          rw [e] at this; omega
        have u3 := rnd_le (Nat.two_pow_pos (lN + b).toNat) u2
        have v1 : 2 ^ M.log2 ≤ M := Nat.log2_self_le hM
        have v2 : 4503599627370496 * 2 ^ (lM + b).toNat ≤ M := by
          have : 2 ^ (52 + (lM + b).toNat) ≤ 2 ^ M.log2 := Nat.pow_le_pow_right (by decide) (by omega)
          rw [Nat.pow_add 2 52] at this
          have e : (2 : Nat) ^ 52 = 4503599627370496 := by decide
          rw [e] at this; omega
        have v3 := le_rnd_of (Nat.two_pow_pos (lM + b).toNat) v2
        have hd : (lN + 1074).toNat + 1 ≤ (lM + 1074).toNat := by omega
        have := Nat.mul_le_mul_right 4503599627370496 hd
        omega
      · have e : lN = lM := by omega
        subst e
        have := rnd_mono (Nat.two_pow_pos (lN + b).toNat) h
        omega
    exact Nat.le_min.2 ⟨Nat.le_trans (Nat.min_le_left _ _) key, Nat.min_le_right _ _⟩

end Go.Eng

namespace Go.Eng
open Ieee

/-! ### what words stand for -/

/-- The number that a word below infinity stands for, in units of '2 ^ -1074'. -/
def unit (r : Nat) : Nat := if r < 4503599627370496 then r else (4503599627370496 + r % 4503599627370496) * 2 ^ (r / 4503599627370496 - 1)

theorem unit_lt (r : Nat) : unit r < 4503599627370496 * 2 ^ (r / 4503599627370496) := by
  unfold unit
  split
  · rename_i h; rw [Nat.div_eq_of_lt h]; simpa using h
  · rename_i h
    have hm : r % 4503599627370496 < 4503599627370496 := Nat.mod_lt _ (by decide)
    have hq : 1 ≤ r / 4503599627370496 := (Nat.le_div_iff_mul_le (by decide)).2 (by omega)
    generalize r / 4503599627370496 = q at hq ⊢
    generalize r % 4503599627370496 = t at hm ⊢
    obtain ⟨k, rfl⟩ : ∃ k, q = k + 1 := ⟨q - 1, by omega⟩
    rw [Nat.add_sub_cancel, Nat.pow_succ, Nat.mul_comm (2 ^ k) 2, ← Nat.mul_assoc]
    exact (Nat.mul_lt_mul_right (Nat.two_pow_pos k)).2 (by omega)

theorem le_unit {r : Nat} (h : 4503599627370496 ≤ r) : 4503599627370496 * 2 ^ (r / 4503599627370496 - 1) ≤ unit r := by
  unfold unit
  rw [if_neg (by omega)]
  exact Nat.mul_le_mul_right _ (by omega)

theorem unit_strict {r s : Nat} (h : r < s) : unit r < unit s := by
  have hq := Nat.div_le_div_right (c := 4503599627370496) (Nat.le_of_lt h)
  rcases Nat.lt_or_ge (r / 4503599627370496) (s / 4503599627370496) with hlt | hge
  · have hs : 4503599627370496 ≤ s := by
      rcases Nat.lt_or_ge s 4503599627370496 with g | g
      · rw [Nat.div_eq_of_lt g] at hlt; omega
      · exact g
    refine Nat.lt_of_lt_of_le (unit_lt r) (Nat.le_trans ?_ (le_unit hs))
    exact Nat.mul_le_mul_left _ (Nat.pow_le_pow_right (by decide) (by omega))
  · have he : r / 4503599627370496 = s / 4503599627370496 := by omega
    have h1 := Nat.div_add_mod r 4503599627370496
    have h2 := Nat.div_add_mod s 4503599627370496
    unfold unit
    split
    · split
      · exact h
      · rename_i g1 g2
        rw [Nat.div_eq_of_lt g1] at he
        have : 1 ≤ s / 4503599627370496 := (Nat.le_div_iff_mul_le (by decide)).2 (by omega)
        omega
    · rename_i g1
      rw [if_neg (by omega), he]
      exact (Nat.mul_lt_mul_right (Nat.two_pow_pos _)).2 (by omega)

theorem unit_mono {r s : Nat} (h : r ≤ s) : unit r ≤ unit s := by
  rcases Nat.lt_or_eq_of_le h with h | rfl
  · exact Nat.le_of_lt (unit_strict h)
  · exact Nat.le_refl _

/-- A word below infinity, without a sign: what it reads as. -/
theorem read_fin {r : Nat} (h : r < 9218868437227405312) : ∃ m i, double.read r = .number false m i ∧ -1074 ≤ i ∧ unit r = m * 2 ^ (i + 1074).toNat := by
  have hs : r / 9223372036854775808 = 0 := Nat.div_eq_of_lt (by omega)
  have hm : r % 9223372036854775808 = r := Nat.mod_eq_of_lt (by omega)
  unfold Format.read
  simp only [swD, binD, infD, lpD, hs, hm]
  by_cases g : r < 4503599627370496
  · rw [if_pos g]
    refine ⟨_, _, rfl, by omega, ?_⟩
    unfold unit; rw [if_pos g]; simp
  · rw [if_neg g, if_pos h]
    refine ⟨_, _, rfl, by omega, ?_⟩
    unfold unit; rw [if_neg g]
    congr 2
    omega

theorem read_inf : double.read 9218868437227405312 = .infinity false := by decide

theorem compare_scale {a b c : Nat} (hc : 0 < c) : compare (a * c) (b * c) = compare a b := by
  simp only [Nat.compare_eq_ite_lt, Nat.mul_lt_mul_right hc]

theorem compare_cast (a b : Nat) : compare (a : Int) (b : Int) = compare a b := by
  simp only [compare, compareOfLessAndEq, Int.ofNat_lt, Int.natCast_inj]

theorem compare_unit (r s : Nat) : compare (unit r) (unit s) = compare r s := by
  rcases Nat.lt_trichotomy r s with h | h | h
  · rw [Nat.compare_eq_lt.2 h, Nat.compare_eq_lt.2 (unit_strict h)]
  · subst h; simp
  · rw [Nat.compare_eq_gt.2 h, Nat.compare_eq_gt.2 (unit_strict h)]

theorem signed_false (m k : Nat) : signed false m k = ((m * 2 ^ k : Nat) : Int) := by simp [signed, Nat.shiftLeft_eq]

theorem order_word {r s : Nat} (hr : r ≤ 9218868437227405312) (hs : s ≤ 9218868437227405312) : double.order r s = some (compare r s) := by
  unfold Format.order
  rcases Nat.lt_or_eq_of_le hr with hr | rfl
  · obtain ⟨m, i, h1, h2, h3⟩ := read_fin hr
    rcases Nat.lt_or_eq_of_le hs with hs | rfl
    · obtain ⟨n, j, g1, g2, g3⟩ := read_fin hs
      rw [h1, g1]
      simp only [Datum.order, signed_false, compare_cast]
      have e1 : (i + 1074).toNat = (i - min i j).toNat + (min i j + 1074).toNat := by omega
      have e2 : (j + 1074).toNat = (j - min i j).toNat + (min i j + 1074).toNat := by omega
      rw [e1, Nat.pow_add, ← Nat.mul_assoc] at h3
      rw [e2, Nat.pow_add, ← Nat.mul_assoc] at g3
      rw [← compare_unit r s, h3, g3, compare_scale (Nat.two_pow_pos _)]
    · rw [h1, read_inf]
      simp only [Datum.order]
      rw [Nat.compare_eq_lt.2 hr]; rfl
  · rcases Nat.lt_or_eq_of_le hs with hs | rfl
    · obtain ⟨n, j, g1, g2, g3⟩ := read_fin hs
      rw [g1, read_inf]
      simp only [Datum.order]
      rw [Nat.compare_eq_gt.2 hs]; rfl
    · rw [read_inf]; simp [Datum.order]

theorem mul_word {r s : Nat} (hr : r < 9218868437227405312) (hs : s < 9218868437227405312) : double.mul r s = some (rung 2148 (unit r * unit s)) := by
  obtain ⟨m, i, h1, h2, h3⟩ := read_fin hr
  obtain ⟨n, j, g1, g2, g3⟩ := read_fin hs
  unfold Format.mul
  rw [h1, g1]
  simp only [Datum.product, Option.map_some, Format.write, Bool.xor_false]
  rw [nearest_eq _ _ 2148 (by decide) (by omega), h3, g3]
  have e : (i + j + ((2148 : Nat) : Int)).toNat = (i + 1074).toNat + (j + 1074).toNat := by omega
  rw [e, Nat.pow_add]
  congr 2
  ac_rfl

/-- '2 ^ 1074': how many units make one. -/
def ones (c : Nat) : Nat := 2 ^ c
def U : Nat := ones 1074
theorem ones_pos (c : Nat) : 0 < ones c := Nat.two_pow_pos c
theorem ones_eq (c : Nat) : 2 ^ c = ones c := rfl
theorem U_pos : 0 < U := ones_pos 1074

theorem nearest_ones (mag : Nat) (place : Int) (b c : Nat) (hb : 1074 ≤ b) (hp : -(b : Int) ≤ place) (hc : (place + b).toNat = c) : double.nearest false mag place = rung b (mag * ones c) := by
  subst hc; exact nearest_eq mag place b hb hp

theorem nearest_nat (n : Nat) : FloatKind.f64.nearest (n : Int) = rung 1074 (n * U) := by
  unfold FloatKind.nearest FloatKind.encode
  have : FloatKind.f64.format = double := rfl
  have hneg : decide ((n : Int) < 0) = false := by simp
  rw [this]
  simp only [Format.write, hneg, Int.natAbs_natCast]
  exact nearest_ones n 0 1074 1074 (by decide) (by omega) (by decide)

theorem cut_zero (neg : Bool) (n drop : Nat) : Toward.zero.cut neg n drop = n / 2 ^ drop := by
  unfold Toward.cut
  simp only [Bool.toNat_false, Nat.add_zero, Nat.shiftLeft_eq, Nat.one_mul]
  by_cases h : drop ≤ n.log2 + 2
  · rw [Nat.min_eq_left h]
  · have hlt : n < 2 ^ (n.log2 + 1) := Nat.lt_log2_self
    have h1 : 2 ^ (n.log2 + 1) ≤ 2 ^ (n.log2 + 2) := Nat.pow_le_pow_right (by decide) (by omega)
    have h2 : 2 ^ (n.log2 + 2) ≤ 2 ^ drop := Nat.pow_le_pow_right (by decide) (by omega)
    rw [Nat.min_eq_right (by omega), Nat.div_eq_of_lt (by omega), Nat.div_eq_of_lt (by omega)]

theorem toInt_aux (m : Nat) (i C : Int) (c : Nat) (hC : C = c) (h : -C ≤ i) : m * 2 ^ i.toNat / 2 ^ (-i).toNat = m * 2 ^ (i + C).toNat / ones c := by
  unfold ones
  rcases Int.le_total 0 i with g | g
  · have e1 : (-i).toNat = 0 := by omega
    have e2 : (i + C).toNat = i.toNat + c := by omega
    rw [e1, e2, Nat.pow_add, ← Nat.mul_assoc, Nat.mul_div_cancel _ (Nat.two_pow_pos _), Nat.pow_zero, Nat.div_one]
  · have e1 : i.toNat = 0 := by omega
    have e2 : c = (-i).toNat + (i + C).toNat := by omega
    have e3 : 2 ^ c = 2 ^ (-i).toNat * 2 ^ (i + C).toNat := by rw [← Nat.pow_add, ← e2]
    rw [e1, e3, Nat.mul_div_mul_right _ _ (Nat.two_pow_pos _), Nat.pow_zero, Nat.mul_one]

theorem toInt_word {r : Nat} (hr : r < 9218868437227405312) : (double.read r).toInt .zero = some ((unit r / U : Nat) : Int) := by
  obtain ⟨m, i, h1, h2, h3⟩ := read_fin hr
  rw [h1]
  simp only [Datum.toInt, Datum.integral, cut_zero, signed_false, Nat.pow_zero, Nat.mul_one, Nat.shiftLeft_eq]
  rw [h3, toInt_aux m i 1074 1074 (by decide) h2]
  rfl

/-- What stands above nought is a word without a sign, up to infinity. -/
theorem pos_word {x : Nat} (hx : x < 18446744073709551616) (h : double.order x 0 = some .gt) : 0 < x ∧ x ≤ 9218868437227405312 := by
  have r0 : double.read 0 = .number false 0 (-1074) := by decide
  unfold Format.order at h
  rw [r0] at h
  rcases Nat.lt_or_ge x 9223372036854775808 with g | g
  · have hle : x ≤ 9218868437227405312 := by
      rcases Nat.lt_or_ge 9218868437227405312 x with k | k
      · exfalso
        have hs : x / 9223372036854775808 = 0 := Nat.div_eq_of_lt g
        have hm : x % 9223372036854775808 = x := Nat.mod_eq_of_lt g
        unfold Format.read at h
        simp only [swD, binD, infD, lpD, hs, hm] at h
        rw [if_neg (by omega), if_neg (by omega), if_neg (by omega)] at h
        simp [Datum.order] at h
      · exact k
    refine ⟨?_, hle⟩
    rcases Nat.eq_zero_or_pos x with rfl | k
    · rw [r0] at h; simp [Datum.order] at h
    · exact k
  · exfalso
    have hs : x / 9223372036854775808 = 1 := by omega
    unfold Format.read at h
    simp only [swD, binD, infD, lpD, hs] at h
    have hneg : ((1 % 2 == 1) : Bool) = true := by decide
    simp only [hneg] at h
    have hno : ∀ m k : Nat, ¬ ((0 : Int) < signed true m k) := by
      intro m k; simp only [signed, if_true]
      have := Int.natCast_nonneg (m <<< k)
      omega
    have hz : ∀ k : Nat, signed false 0 k = 0 := by intro k; simp [signed]
    split at h
    · simp only [Datum.order, hz, Option.some.injEq] at h
      have := Int.compare_eq_gt.1 h
      exact hno _ _ this
    · split at h
      · simp only [Datum.order, hz, Option.some.injEq] at h
        have := Int.compare_eq_gt.1 h
        exact hno _ _ this
      · split at h
        · simp [Datum.order] at h
        · simp [Datum.order] at h

end Go.Eng

namespace Go.Eng
open Ieee

/-! ### a part of a number -/

/-- The float that a number is. -/
def flt (n : Nat) : Nat := rung 1074 (n * U)
/-- The product of a number's float and another float, both without a sign and finite. -/
def prd (n x : Nat) : Nat := rung 2148 (unit (flt n) * unit x)

def partN (n x : Nat) : Nat :=
  if double.order x 0 = some .gt then
    if 4607182418800017408 ≤ x then n
    else if 4895412794951729152 ≤ prd n x then n
    else min n (unit (prd n x) / U)
  else 0

theorem rung_le (b N : Nat) : rung b N ≤ 9218868437227405312 := by
  unfold rung
  split
  · omega
  · exact Nat.min_le_right _ _

theorem rung_one : rung 1074 (18446744073709551616 * U) = 4895412794951729152 := by decide +kernel

theorem flt_le {n : Nat} (h : n < 18446744073709551616) : flt n ≤ 4895412794951729152 := by
  have h1 : n * U ≤ 18446744073709551616 * U := Nat.mul_le_mul_right _ (by omega)
  have h2 := rung_mono (b := 1074) (by decide) h1
  rw [rung_one] at h2
  exact h2

theorem flt_mono {n m : Nat} (h : n ≤ m) : flt n ≤ flt m := rung_mono (by decide) (Nat.mul_le_mul_right _ h)

theorem prd_mono {n m x y : Nat} (h : n ≤ m) (k : x ≤ y) : prd n x ≤ prd m y :=
  rung_mono (by decide) (Nat.mul_le_mul (unit_mono (flt_mono h)) (unit_mono k))

theorem partN_le (n x : Nat) : partN n x ≤ n := by
  unfold partN
  split
  · split
    · exact Nat.le_refl n
    · split
      · exact Nat.le_refl n
      · exact Nat.min_le_left _ _
  · exact Nat.zero_le n

theorem partN_whole {n m : Nat} (h : n ≤ m) (x : Nat) : partN n x ≤ partN m x := by
  unfold partN
  split
  · split
    · exact h
    · have hp := prd_mono h (Nat.le_refl x)
      split
      · rw [if_pos (by omega)]; exact h
      · split
        · exact Nat.le_trans (Nat.min_le_left _ _) h
        · exact Nat.le_min.2 ⟨Nat.le_trans (Nat.min_le_left _ _) h, Nat.le_trans (Nat.min_le_right _ _) (Nat.div_le_div_right (unit_mono hp))⟩
  · exact Nat.le_refl 0

/-- What stands at or above something above nought stands above it, too. -/
theorem pos_of_le {x y : Nat} (hx : x < 18446744073709551616) (hy : y < 18446744073709551616) (h : double.order x 0 = some .gt) (hle : double.order x y = some .lt ∨ double.order x y = some .eq) :
    double.order y 0 = some .gt ∧ x ≤ y := by
  obtain ⟨h1, h2⟩ := pos_word hx h
  have fin : ∀ {z : Nat}, z ≤ 9218868437227405312 → (double.order x z = some .lt ∨ double.order x z = some .eq) → double.order z 0 = some .gt ∧ x ≤ z := by
    intro z hz hl
    rw [order_word h2 hz] at hl
    have hxz : x ≤ z := by
      rcases hl with hl | hl
      · exact Nat.le_of_lt (Nat.compare_eq_lt.1 (Option.some.inj hl))
      · exact Nat.le_of_eq (Nat.compare_eq_eq.1 (Option.some.inj hl))
    refine ⟨?_, hxz⟩
    rw [order_word hz (by decide), Nat.compare_eq_gt.2 (by omega)]
  rcases Nat.lt_or_ge 9218868437227405312 y with g | g
  · exfalso
    rcases Nat.lt_or_ge y 9223372036854775808 with k | k
    · have hs : y / 9223372036854775808 = 0 := Nat.div_eq_of_lt k
      have hm : y % 9223372036854775808 = y := Nat.mod_eq_of_lt k
      have hr : double.read y = .nan false (y - 9218868437227405312) := by
        unfold Format.read
        simp only [swD, binD, infD, lpD, hs, hm]
        rw [if_neg (by omega), if_neg (by omega), if_neg (by omega)]
        rfl
      unfold Format.order at hle
      rw [hr] at hle
      cases hx' : double.read x <;> simp [hx', Datum.order] at hle
    · have hs : y / 9223372036854775808 = 1 := by omega
      have hneg : ((1 % 2 == 1) : Bool) = true := by decide
      unfold Format.order at hle
      have key : ∀ d : Datum, (d = double.read y) → ¬ ((double.read x).order d = some .lt ∨ (double.read x).order d = some .eq) := by
        intro d hd
        unfold Format.read at hd
        simp only [swD, binD, infD, lpD, hs] at hd
        simp only [hneg] at hd
        have hle0 : ∀ m k : Nat, signed true m k ≤ 0 := by
          intro m k; simp only [signed, if_true]
          have := Int.natCast_nonneg (m <<< k)
          omega
        have num : ∀ m i, ¬ ((double.read x).order (.number true m i) = some .lt ∨ (double.read x).order (.number true m i) = some .eq) := by
          intro m i
          rcases Nat.lt_or_eq_of_le h2 with h2 | rfl
          · obtain ⟨a, j, g1, g2, g3⟩ := read_fin h2
            have hu : 0 < unit x := Nat.lt_of_le_of_lt (Nat.zero_le _) (unit_strict h1)
            have ha : 0 < a := by
              rcases Nat.eq_zero_or_pos a with rfl | q
              · rw [Nat.zero_mul] at g3; omega
              · exact q
            rw [g1]
            simp only [Datum.order, signed_false]
            have hp : (0 : Int) < ((a * 2 ^ (j - min j i).toNat : Nat) : Int) := Int.natCast_pos.2 (Nat.mul_pos ha (Nat.two_pow_pos _))
            have hgt := Int.compare_eq_gt.2 (Int.lt_of_le_of_lt (hle0 m (i - min j i).toNat) hp)
            rw [hgt]; simp
          · rw [read_inf]; simp [Datum.order]
        split at hd
        · rw [hd]; exact num _ _
        · split at hd
          · rw [hd]; exact num _ _
          · split at hd
            · rw [hd]
              rcases Nat.lt_or_eq_of_le h2 with h2 | rfl
              · obtain ⟨a, j, g1, _, _⟩ := read_fin h2
                rw [g1]; simp [Datum.order]
              · rw [read_inf]; simp [Datum.order]; decide
            · rw [hd]
              cases hx' : double.read x <;> simp [Datum.order]
      exact key _ rfl hle
  · exact fin g hle

theorem partN_part {x y : Nat} (hx : x < 18446744073709551616) (hy : y < 18446744073709551616) (n : Nat) (hle : double.order x y = some .lt ∨ double.order x y = some .eq) : partN n x ≤ partN n y := by
  by_cases h : double.order x 0 = some .gt
  · obtain ⟨h1, h2⟩ := pos_of_le hx hy h hle
    unfold partN
    rw [if_pos h, if_pos h1]
    split
    · rw [if_pos (by omega)]; exact Nat.le_refl n
    · have hp := prd_mono (Nat.le_refl n) h2
      split
      · split
        · exact Nat.le_refl n
        · rw [if_pos (by omega)]; exact Nat.le_refl n
      · split
        · exact Nat.min_le_left _ _
        · split
          · exact Nat.min_le_left _ _
          · exact Nat.le_min.2 ⟨Nat.min_le_left _ _, Nat.le_trans (Nat.min_le_right _ _) (Nat.div_le_div_right (unit_mono hp))⟩
  · unfold partN
    rw [if_neg h]; exact Nat.zero_le _

/-! ### as the program asks -/

theorem order_one {x : Nat} (hx : x < 18446744073709551616) (h : double.order x 0 = some .gt) : (double.order x 4607182418800017408 == some .gt || double.order x 4607182418800017408 == some .eq) = decide (4607182418800017408 ≤ x) := by
  obtain ⟨h1, h2⟩ := pos_word hx h
  rw [order_word h2 (by decide)]
  rcases Nat.lt_trichotomy x 4607182418800017408 with g | g | g
  · rw [Nat.compare_eq_lt.2 g]
    have : ¬ 4607182418800017408 ≤ x := by omega
    simp [this]
  · rw [Nat.compare_eq_eq.2 g]
    have : 4607182418800017408 ≤ x := by omega
    simp [this]
  · rw [Nat.compare_eq_gt.2 g]
    have : 4607182418800017408 ≤ x := by omega
    simp [this]

theorem order_two {b N : Nat} : (double.order (rung b N) 4895412794951729152 == some .gt || double.order (rung b N) 4895412794951729152 == some .eq) = decide (4895412794951729152 ≤ rung b N) := by
  rw [order_word (rung_le b N) (by decide)]
  generalize rung b N = x
  rcases Nat.lt_trichotomy x 4895412794951729152 with g | g | g
  · rw [Nat.compare_eq_lt.2 g]
    have : ¬ 4895412794951729152 ≤ x := by omega
    simp [this]
  · rw [Nat.compare_eq_eq.2 g]
    have : 4895412794951729152 ≤ x := by omega
    simp [this]
  · rw [Nat.compare_eq_gt.2 g]
    have : 4895412794951729152 ≤ x := by omega
    simp [this]

theorem mul_flt {n x : Nat} (hn : n < 18446744073709551616) (hx : x < 4607182418800017408) : floatBits .mul .f64 (floatOfInt .f64 (n : Int)) x = some (prd n x) := by
  have h1 : floatOfInt .f64 (n : Int) = flt n := nearest_nat n
  rw [h1]
  exact mul_word (Nat.lt_of_le_of_lt (flt_le hn) (by decide)) (by omega)

theorem unit_two : unit 4895412794951729152 = 18446744073709551616 * U := by decide +kernel

theorem int_of {x : Nat} (h : x < 4895412794951729152) : floatToIntVal .f64 x .u64 = some ((unit x / U : Nat) : Int) := by
  have ht : (FloatKind.f64.decode x).toInt .zero = some ((unit x / U : Nat) : Int) := toInt_word (by omega)
  have hlt : unit x / U < 18446744073709551616 := by
    have := unit_strict h
    rw [unit_two] at this
    exact (Nat.div_lt_iff_lt_mul U_pos).2 this
  unfold floatToIntVal
  rw [ht]
  simp only
  have hmin : IntKind.u64.min = 0 := by decide
  have hmax : IntKind.u64.max = 18446744073709551615 := by decide
  rw [if_pos ⟨by rw [hmin]; exact Int.natCast_nonneg _, by rw [hmax]; omega⟩]

end Go.Eng
