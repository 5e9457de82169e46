/- Sums, quotients and shares of float64: what they are, as words. Conditions: none. -/
import Derived.Test.YticoedgefeeikaaGreatFl
namespace Go.Eng
open Ieee

/-! ### words with a sign; what is kept -/

theorem nearest_neg (neg : Bool) (mag : Nat) (place : Int) : double.nearest neg mag place = double.word neg (double.nearest false mag place) := by
  unfold Format.nearest
  by_cases h0 : mag = 0
  · simp [h0, Format.word]
  · simp only [if_neg h0, cut_even]
    cases neg <;> simp [Format.word]

theorem rung_scale (b N : Nat) (hb : 1074 ≤ b) : rung b (N * 2 ^ (b - 1074)) = rung 1074 N := by
  have h1 := nearest_eq N (-1074) 1074 (by decide) (by omega)
  have h2 := nearest_eq N (-1074) b hb (by omega)
  have e1 : ((-1074 : Int) + ((1074 : Nat) : Int)).toNat = 0 := by decide
  have e2 : ((-1074 : Int) + (b : Int)).toNat = b - 1074 := by omega
  rw [e1, Nat.pow_zero, Nat.mul_one] at h1
  rw [e2] at h2
  exact h2.symm.trans h1

theorem rung_ones (b N k : Nat) (hb : 1074 ≤ b) (hk : b - 1074 = k) : rung b (N * ones k) = rung 1074 N := by
  subst hk; exact rung_scale b N hb

theorem ones_aux (m e1 e2 e3 k : Nat) (h : e1 + e2 = e3 + k) : m * 2 ^ e1 * 2 ^ e2 = m * 2 ^ e3 * ones k := by
  unfold ones
  rw [Nat.mul_assoc, Nat.mul_assoc, ← Nat.pow_add, ← Nat.pow_add, h]

/-- What is a word's own number is rounded to that word. -/
theorem rung_unit {r : Nat} (h : r < 9218868437227405312) : rung 1074 (unit r) = r := by
  unfold rung
  by_cases h0 : unit r = 0
  · rw [if_pos h0]
    rcases Nat.eq_zero_or_pos r with rfl | hr
    · rfl
    · have := unit_strict hr
      omega
  · rw [if_neg h0]
    simp only
    by_cases g : r < 4503599627370496
    · have hu : unit r = r := by unfold unit; rw [if_pos g]
      rw [hu] at h0 ⊢
      have hl : r.log2 < 52 := (Nat.log2_lt h0).2 (by omega)
      have e : max ((r.log2 : Int) - ((1074 : Nat) : Int) - 52) (-1074) = -1074 := by omega
      rw [e]
      have e1 : ((-1074 : Int) + 1074).toNat = 0 := by decide
      have e2 : ((-1074 : Int) + ((1074 : Nat) : Int)).toNat = 0 := by decide
      rw [e1, e2, Nat.zero_mul, Nat.zero_add, Nat.pow_zero]
      have := rnd_mul (k := r) (d := 1) (by decide)
      rw [Nat.mul_one] at this
      rw [this]
      exact Nat.min_eq_left (Nat.le_of_lt h)
    · have hm : r % 4503599627370496 < 4503599627370496 := Nat.mod_lt _ (by decide)
      have hq : 1 ≤ r / 4503599627370496 := (Nat.le_div_iff_mul_le (by decide)).2 (by omega)
      have hr := Nat.div_add_mod r 4503599627370496
      have hu : unit r = (4503599627370496 + r % 4503599627370496) * 2 ^ (r / 4503599627370496 - 1) := by unfold unit; rw [if_neg g]
      rw [hu]
      generalize r / 4503599627370496 = q at hq hr
      generalize r % 4503599627370496 = t at hm hr
      have hb : 4503599627370496 + t ≠ 0 := by omega
      have hl : (4503599627370496 + t).log2 = 52 := by
        have h1 : (4503599627370496 + t).log2 < 53 := (Nat.log2_lt hb).2 (by omega)
        have h2 : 52 ≤ (4503599627370496 + t).log2 := (Nat.le_log2 hb).2 (by omega)
        omega
      rw [log2_scale hb, hl]
      have e : max (((52 + (q - 1) : Nat) : Int) - ((1074 : Nat) : Int) - 52) (-1074) = ((q - 1 : Nat) : Int) - 1074 := by omega
      rw [e]
      have e1 : (((q - 1 : Nat) : Int) - 1074 + 1074).toNat = q - 1 := by omega
      have e2 : (((q - 1 : Nat) : Int) - 1074 + ((1074 : Nat) : Int)).toNat = q - 1 := by omega
      rw [e1, e2, rnd_mul (Nat.two_pow_pos _)]
      have : (q - 1) * 4503599627370496 + 4503599627370496 = 4503599627370496 * q := by
        obtain ⟨k, rfl⟩ : ∃ k, q = k + 1 := ⟨q - 1, by omega⟩
        rw [Nat.add_sub_cancel]; omega
      have hv : (q - 1) * 4503599627370496 + (4503599627370496 + t) = r := by omega
      rw [hv]
      exact Nat.min_eq_left (Nat.le_of_lt h)

/-- A word below infinity, without a sign: more of what it reads as. -/
theorem read_fin2 {r : Nat} (h : r < 9218868437227405312) : ∃ m i, double.read r = .number false m i ∧ -1074 ≤ i ∧ unit r = m * 2 ^ (i + 1074).toNat ∧ m < 9007199254740992 ∧ i = -1074 + ((r / 4503599627370496 - 1 : Nat) : Int) ∧ (4503599627370496 ≤ r → 4503599627370496 ≤ m) := by
  have hs : r / 9223372036854775808 = 0 := Nat.div_eq_of_lt (by omega)
  have hm : r % 9223372036854775808 = r := Nat.mod_eq_of_lt (by omega)
  have ht : r % 4503599627370496 < 4503599627370496 := Nat.mod_lt _ (by decide)
  unfold Format.read
  simp only [swD, binD, infD, lpD, hs, hm]
  by_cases g : r < 4503599627370496
  · rw [if_pos g]
    refine ⟨_, _, rfl, by omega, ?_, by omega, ?_, by omega⟩
    · unfold unit; rw [if_pos g]; simp
    · rw [Nat.div_eq_of_lt g]; rfl
  · rw [if_neg g, if_pos h]
    refine ⟨_, _, rfl, by omega, ?_, by omega, rfl, by omega⟩
    unfold unit; rw [if_neg g]
    congr 2
    omega

/-- The four makes of words. -/
inductive Make (x : Nat) : Prop where
  | fin (r : Nat) (h : r < 9218868437227405312) (e : x = r)
  | neg (r : Nat) (h : r < 9218868437227405312) (e : x = 9223372036854775808 + r)
  | inf (s : Bool) (e : x = double.word s 9218868437227405312)
  | nan (s : Bool) (t : Nat) (h : double.read x = .nan s t)

theorem make_of {x : Nat} (hx : x < 18446744073709551616) : Make x := by
  rcases Nat.lt_or_ge x 9223372036854775808 with g | g
  · rcases Nat.lt_trichotomy x 9218868437227405312 with k | k | k
    · exact .fin x k rfl
    · exact .inf false (by simp [k, Format.word])
    · have hs : x / 9223372036854775808 = 0 := Nat.div_eq_of_lt g
      have hm : x % 9223372036854775808 = x := Nat.mod_eq_of_lt g
      refine .nan false (x - 9218868437227405312) ?_
      unfold Format.read
      simp only [swD, binD, infD, lpD, hs, hm]
      rw [if_neg (by omega), if_neg (by omega), if_neg (by omega)]
      rfl
  · have hs : x / 9223372036854775808 = 1 := by omega
    have hm : x % 9223372036854775808 = x - 9223372036854775808 := by omega
    rcases Nat.lt_trichotomy (x - 9223372036854775808) 9218868437227405312 with k | k | k
    · exact .neg _ k (by omega)
    · exact .inf true (by simp only [Format.word, swD, if_true]; omega)
    · refine .nan true (x - 9223372036854775808 - 9218868437227405312) ?_
      unfold Format.read
      simp only [swD, binD, infD, lpD, hs, hm]
      rw [if_neg (by omega), if_neg (by omega), if_neg (by omega)]
      rfl

theorem read_neg {r : Nat} (h : r < 9218868437227405312) {m : Nat} {i : Int} (hr : double.read r = .number false m i) : double.read (9223372036854775808 + r) = .number true m i := by
  have hs : r / 9223372036854775808 = 0 := Nat.div_eq_of_lt (by omega)
  have hm : r % 9223372036854775808 = r := Nat.mod_eq_of_lt (by omega)
  have hs2 : (9223372036854775808 + r) / 9223372036854775808 = 1 := by omega
  have hm2 : (9223372036854775808 + r) % 9223372036854775808 = r := by omega
  unfold Format.read at hr ⊢
  simp only [swD, binD, infD, lpD, hs, hm] at hr
  simp only [swD, binD, infD, lpD, hs2, hm2]
  by_cases g : r < 4503599627370496
  · rw [if_pos g] at hr ⊢
    simp only [Datum.number.injEq] at hr ⊢
    exact ⟨by decide, hr.2⟩
  · rw [if_neg g, if_pos h] at hr ⊢
    simp only [Datum.number.injEq] at hr ⊢
    exact ⟨by decide, hr.2⟩

theorem read_ninf : double.read (double.word true 9218868437227405312) = .infinity true := by decide
theorem read_pinf : double.read (double.word false 9218868437227405312) = .infinity false := by decide
theorem read_zero : double.read 0 = .number false 0 (-1074) := by decide
theorem read_one : double.read 4607182418800017408 = .number false 4503599627370496 (-52) := by decide

/-- Without the sign of a nought. -/
def cleanN (x : Nat) : Nat := if x = 9223372036854775808 then 0 else x

def isNanN (x : Nat) : Bool := (double.read x).isNaN

theorem order_self {x : Nat} (hx : x < 18446744073709551616) : double.order x x = if isNanN x then none else some .eq := by
  have num : ∀ s m i, Datum.order (.number s m i) (.number s m i) = some .eq := by
    intro s m i; simp only [Datum.order, Option.some.injEq]; exact Int.compare_eq_eq.2 rfl
  unfold Format.order isNanN
  cases make_of hx with
  | fin r h e => subst e; obtain ⟨m, i, h1, _, _⟩ := read_fin h; rw [h1, num]; rfl
  | neg r h e => subst e; obtain ⟨m, i, h1, _, _⟩ := read_fin h; rw [read_neg h h1, num]; rfl
  | inf s e => subst e; cases s
               · rw [read_pinf]; rfl
               · rw [read_ninf]; rfl
  | nan s t h => rw [h]; rfl

theorem nan_ops {x : Nat} (h : isNanN x = true) (y : Nat) : double.add y x = none ∧ double.add x y = none ∧ double.div x y = none := by
  unfold isNanN at h
  cases hx : double.read x with
  | nan s t =>
    unfold Format.add Format.div
    rw [hx]
    refine ⟨?_, ?_, ?_⟩
    · cases double.read y <;> rfl
    · cases double.read y <;> rfl
    · cases double.read y <;> rfl
  | number => rw [hx] at h; cases h
  | infinity => rw [hx] at h; cases h

/-- Nought and a float. -/
theorem zero_add {x : Nat} (hx : x < 18446744073709551616) (h : isNanN x = false) : double.add 0 x = some (cleanN x) := by
  unfold Format.add
  rw [read_zero]
  cases make_of hx with
  | fin r hr e =>
    subst e
    obtain ⟨m, i, h1, h2, h3⟩ := read_fin hr
    rw [h1]
    have hb : min (-1074) i = -1074 := by omega
    have hz : signed false 0 (-1074 - min (-1074) i).toNat = 0 := by simp [signed]
    simp only [Datum.sum, hb, Option.map_some, Format.write, signed_false, Nat.zero_mul]
    have e1 : (i - -1074).toNat = (i + 1074).toNat := by congr 1
    rw [e1, ← h3]
    have e2 : (((0 : Nat) : Int) + (unit x : Int)).natAbs = unit x := by omega
    rw [e2]
    have e3 : (if ((0 : Nat) : Int) + (unit x : Int) = 0 then false && false else decide (((0 : Nat) : Int) + (unit x : Int) < 0)) = false := by
      split
      · rfl
      · simp
    rw [e3, nearest_eq _ _ 1074 (by decide) (by omega)]
    have e4 : ((-1074 : Int) + ((1074 : Nat) : Int)).toNat = 0 := by decide
    rw [e4, Nat.pow_zero, Nat.mul_one, rung_unit hr]
    have : cleanN x = x := by unfold cleanN; rw [if_neg (by omega)]
    rw [this]
  | neg r hr e =>
    subst e
    obtain ⟨m, i, h1, h2, h3⟩ := read_fin hr
    rw [read_neg hr h1]
    have hb : min (-1074) i = -1074 := by omega
    have hn : ∀ k, signed true m k = -((m * 2 ^ k : Nat) : Int) := by intro k; simp [signed, Nat.shiftLeft_eq]
    simp only [Datum.sum, hb, Option.map_some, Format.write, signed_false, hn, Nat.zero_mul]
    have e1 : (i - -1074).toNat = (i + 1074).toNat := by congr 1
    rw [e1, ← h3]
    have e2 : (((0 : Nat) : Int) + -(unit r : Int)).natAbs = unit r := by omega
    rw [e2]
    rcases Nat.eq_zero_or_pos r with rfl | hp
    · have hu : unit 0 = 0 := by decide
      rw [hu]
      decide
    · have hu : 0 < unit r := Nat.lt_of_le_of_lt (Nat.zero_le _) (unit_strict hp)
      have e3 : (if ((0 : Nat) : Int) + -(unit r : Int) = 0 then false && true else decide (((0 : Nat) : Int) + -(unit r : Int) < 0)) = true := by
        rw [if_neg (by omega)]; simp; omega
      rw [e3, nearest_neg, nearest_eq _ _ 1074 (by decide) (by omega)]
      have e4 : ((-1074 : Int) + ((1074 : Nat) : Int)).toNat = 0 := by decide
      rw [e4, Nat.pow_zero, Nat.mul_one, rung_unit hr]
      have : cleanN (9223372036854775808 + r) = 9223372036854775808 + r := by unfold cleanN; rw [if_neg (by omega)]
      rw [this]
      simp [Format.word, swD]
  | inf s e => subst e; cases s <;> decide
  | nan s t hn => unfold isNanN at h; rw [hn] at h; cases h

theorem cleanN_lt {x : Nat} (hx : x < 18446744073709551616) : cleanN x < 18446744073709551616 := by unfold cleanN; split <;> omega

/-- A float by one. -/
theorem div_one {x : Nat} (hx : x < 18446744073709551616) (h : isNanN x = false) (hz : x ≠ 9223372036854775808) : double.div x 4607182418800017408 = some x := by
  have pos : ∀ {r : Nat} (s : Bool), r < 9218868437227405312 → ∀ m i, -1074 ≤ i → m < 9007199254740992 → unit r = m * 2 ^ (i + 1074).toNat →
      (Datum.quotient 54 (.number s m i) (.number false 4503599627370496 (-52))).map double.write = some (double.word s r) := by
    intro r s hr m i h2 hm h3
    simp only [Datum.quotient]
    rw [if_neg (by decide)]
    simp only [Option.map_some, Format.write, Bool.xor_false]
    have hl52 : Nat.log2 4503599627370496 = 52 := by decide
    have hlm : m.log2 ≤ 52 := by
      rcases Nat.eq_zero_or_pos m with rfl | hp
      · decide
      · have := (Nat.log2_lt (n := m) (k := 53) (by omega)).2 (by omega); omega
    rw [hl52]
    generalize hk : 54 + 52 - m.log2 = more
    have hmore : 54 ≤ more ∧ more ≤ 106 := by omega
    have hd : m <<< more = (m * 2 ^ (more - 52)) * 4503599627370496 := by
      rw [Nat.shiftLeft_eq, Nat.mul_assoc]
      congr 1
      have : (4503599627370496 : Nat) = 2 ^ 52 := by decide
      rw [this, ← Nat.pow_add]; congr 1; omega
    rw [hd, Nat.mul_div_cancel _ (by decide), Nat.mul_mod_left]
    have e0 : ((0 : Nat) != 0).toNat = 0 := rfl
    rw [e0, Nat.add_zero, nearest_neg, nearest_eq _ _ 2148 (by decide) (by omega)]
    have e1 : 2 * (m * 2 ^ (more - 52)) * 2 ^ (i - -52 - ↑more - 1 + ((2148 : Nat) : Int)).toNat = unit r * ones 1074 := by
      rw [h3]
      have a1 : 2 * (m * 2 ^ (more - 52)) = m * 2 ^ (more - 51) := by
        have : more - 51 = (more - 52) + 1 := by omega
        rw [this, Nat.pow_succ]; ac_rfl
      rw [a1]
      exact ones_aux m _ _ _ 1074 (by omega)
    rw [e1, rung_ones 2148 _ 1074 (by decide) (by decide), rung_unit hr]
  unfold Format.div
  rw [read_one]
  have hfb : double.fractionBits + 2 = 54 := rfl
  rw [hfb]
  cases make_of hx with
  | fin r hr e =>
    subst e
    obtain ⟨m, i, h1, h2, h3, h4, _⟩ := read_fin2 hr
    rw [h1, pos false hr m i h2 h4 h3]
    simp [Format.word]
  | neg r hr e =>
    subst e
    obtain ⟨m, i, h1, h2, h3, h4, _⟩ := read_fin2 hr
    rw [read_neg hr h1, pos true hr m i h2 h4 h3]
    simp [Format.word, swD]
  | inf s e => subst e; cases s <;> decide
  | nan s t hn => unfold isNanN at h; rw [hn] at h; cases h

end Go.Eng

namespace Go.Eng
open Ieee

/-! ### a share -/

theorem rung_u1 : rung 1074 (1 * U) = 4607182418800017408 := by decide +kernel
theorem flt_one : flt 1 = 4607182418800017408 := rung_u1
theorem flt_zero : flt 0 = 0 := by unfold flt; rw [Nat.zero_mul]; rfl

theorem rung_2148 : rung 2148 (ones 2148) = 4607182418800017408 := by decide +kernel
theorem rung_2400 : rung 2148 (ones 2400) < 9218868437227405312 := by decide +kernel

theorem ones_mul (a b c : Nat) (h : a + b = c) : ones a * ones b = ones c := by subst h; exact (Nat.pow_add 2 a b).symm
theorem ones_le {a b : Nat} (h : a ≤ b) : ones a ≤ ones b := Nat.pow_le_pow_right (by decide) h

/-- The quotient of what two words without a sign stand for. -/
theorem quotient_fin {m n : Nat} {i j : Int} (hn : n ≠ 0) (hm : m < 9007199254740992) (hn2 : n < 9007199254740992) (hi : -1074 ≤ i ∧ i ≤ 12) (hj : -52 ≤ j ∧ j ≤ 12) :
    ∃ N, (Datum.quotient 54 (.number false m i) (.number false n j)).map double.write = some (rung 2148 N) ∧ N ≤ ones 2400 ∧
      (4503599627370496 ≤ m → 4503599627370496 ≤ n → i ≤ j → m ≤ n * 2 ^ (j - i).toNat → N ≤ ones 2148) ∧ (m = 0 → N = 0) := by
  simp only [Datum.quotient]
  rw [if_neg hn]
  simp only [Option.map_some, Format.write, Bool.xor_false]
  have hlm : m.log2 ≤ 52 := by
    rcases Nat.eq_zero_or_pos m with rfl | hp
    · decide
    · have := (Nat.log2_lt (n := m) (k := 53) (by omega)).2 (by omega); omega
  have hln : n.log2 ≤ 52 := by
    have := (Nat.log2_lt (n := n) (k := 53) hn).2 (by omega); omega
  generalize hk : 54 + n.log2 - m.log2 = more
  have hmore : more ≤ 106 := by omega
  generalize hD : m <<< more = D
  generalize hQ : 2 * (D / n) + (D % n != 0).toNat = Q
  have hst : (D % n != 0).toNat ≤ 1 := by cases (D % n != 0) <;> decide
  have hD' : D = m * 2 ^ more := by rw [← hD, Nat.shiftLeft_eq]
  refine ⟨Q * 2 ^ (i - j - more - 1 + ((2148 : Nat) : Int)).toNat, ?_, ?_, ?_, ?_⟩
  · rw [nearest_eq _ _ 2148 (by decide) (by omega)]
  · have h1 : D ≤ ones 159 := by
      rw [hD']
      have h53 : m ≤ ones 53 := by
        have : ones 53 = 9007199254740992 := by decide
        omega
      have : m * 2 ^ more ≤ ones 53 * ones 106 := Nat.mul_le_mul h53 (ones_le (by omega))
      rwa [ones_mul 53 106 159 rfl] at this
    have h2 : D / n ≤ D := Nat.div_le_self _ _
    have h3 : Q ≤ ones 161 := by
      have e1 : ones 161 = 4 * ones 159 := by rw [← ones_mul 2 159 161 rfl]; rfl
      have e2 := ones_pos 159
      omega
    have h4 : 2 ^ (i - j - more - 1 + ((2148 : Nat) : Int)).toNat ≤ ones 2239 := ones_le (by omega)
    have := Nat.mul_le_mul h3 h4
    rwa [ones_mul 161 2239 2400 rfl] at this
  · intro hm2 hn3 hij hle
    have l1 : m.log2 = 52 := by
      have : 52 ≤ m.log2 := (Nat.le_log2 (by omega)).2 (by omega)
      omega
    have l2 : n.log2 = 52 := by
      have : 52 ≤ n.log2 := (Nat.le_log2 (by omega)).2 (by omega)
      omega
    have hmr : more = 54 := by omega
    generalize hkk : (j - i).toNat = k at hle
    have hk2 : k ≤ 1086 := by omega
    have hD2 : D ≤ n * (2 ^ k * 2 ^ 54) := by
      rw [hD', hmr, ← Nat.mul_assoc]
      exact Nat.mul_le_mul_right _ hle
    generalize hc : 2 ^ k * 2 ^ 54 = c at hD2
    have hnp : 0 < n := Nat.pos_of_ne_zero hn
    have hq : D / n ≤ c := by
      have := Nat.div_le_div_right (c := n) hD2
      rwa [Nat.mul_div_cancel_left _ hnp] at this
    have hQ2 : Q ≤ 2 * c := by
      rcases Nat.lt_or_eq_of_le hq with g | g
      · omega
      · have h1 := Nat.div_add_mod D n
        rw [g] at h1
        have hz : D % n = 0 := by omega
        rw [hz] at hQ
        have : ((0 : Nat) != 0).toNat = 0 := rfl
        omega
    have e : (i - j - more - 1 + ((2148 : Nat) : Int)).toNat = 2093 - k := by omega
    rw [e]
    have h5 : Q * 2 ^ (2093 - k) ≤ 2 * c * 2 ^ (2093 - k) := Nat.mul_le_mul_right _ hQ2
    have h6 : 2 * c * 2 ^ (2093 - k) = ones 2148 := by
      rw [← hc]
      have : 2 * (2 ^ k * 2 ^ 54) = ones (k + 55) := by
        unfold ones
        rw [Nat.pow_add 2 k 55]
        have : (2 : Nat) ^ 55 = 2 * 2 ^ 54 := by decide
        rw [this]; ac_rfl
      rw [this]
      exact ones_mul (k + 55) (2093 - k) 2148 (by omega)
    omega
  · intro hz
    subst hz
    have : D = 0 := by rw [hD', Nat.zero_mul]
    subst this
    rw [Nat.zero_div, Nat.zero_mod] at hQ
    have : ((0 : Nat) != 0).toNat = 0 := rfl
    have : Q = 0 := by omega
    rw [this, Nat.zero_mul]

/-- A share of something above nought. -/
theorem share_fin {a b : Nat} (ha : a < 18446744073709551616) (hb : b < 18446744073709551616) (h0 : 0 < b) : ∃ r, double.div (flt a) (flt b) = some r ∧ r < 9218868437227405312 ∧ (a ≤ b → r ≤ 4607182418800017408) := by
  have fa := flt_le ha
  have fb := flt_le hb
  have fb1 : 4607182418800017408 ≤ flt b := by rw [← flt_one]; exact flt_mono h0
  obtain ⟨m, i, a1, a2, a3, a4, a5, a6⟩ := read_fin2 (r := flt a) (by omega)
  obtain ⟨n, j, b1, b2, b3, b4, b5, b6⟩ := read_fin2 (r := flt b) (by omega)
  have hn := b6 (by omega)
  have q1 : flt b / 4503599627370496 ≤ 1087 := by omega
  have q2 : 1023 ≤ flt b / 4503599627370496 := by omega
  have q3 : flt a / 4503599627370496 ≤ 1087 := by omega
  obtain ⟨N, c1, c2, c3, c4⟩ := quotient_fin (m := m) (n := n) (i := i) (j := j) (by omega) a4 b4 (by omega) (by omega)
  have hfb : double.fractionBits + 2 = 54 := rfl
  refine ⟨rung 2148 N, ?_, ?_, ?_⟩
  · unfold Format.div
    rw [a1, b1, hfb, c1]
  · exact Nat.lt_of_le_of_lt (rung_mono (by decide) c2) rung_2400
  · intro hab
    rcases Nat.eq_zero_or_pos a with rfl | hp
    · rw [flt_zero] at a3
      have hm0 : m = 0 := by
        have hu : unit 0 = 0 := by decide
        rw [hu] at a3
        rcases Nat.eq_zero_or_pos m with h | h
        · exact h
        · have := Nat.mul_pos h (Nat.two_pow_pos (i + 1074).toNat); omega
      rw [c4 hm0]
      exact Nat.le_of_lt (by decide)
    · have fa1 : 4607182418800017408 ≤ flt a := by rw [← flt_one]; exact flt_mono hp
      have hfab := flt_mono hab
      have hm := a6 (by omega)
      have hd := Nat.div_le_div_right (c := 4503599627370496) hfab
      have hij : i ≤ j := by omega
      have hle : m ≤ n * 2 ^ (j - i).toNat := by
        have hu := unit_mono hfab
        rw [a3, b3] at hu
        have e : (j + 1074).toNat = (j - i).toNat + (i + 1074).toNat := by omega
        rw [e, Nat.pow_add, ← Nat.mul_assoc] at hu
        exact Nat.le_of_mul_le_mul_right hu (Nat.two_pow_pos _)
      have := rung_mono (b := 2148) (by decide) (c3 hm hn hij hle)
      rwa [rung_2148] at this

theorem share_inf {a : Nat} (ha : a < 18446744073709551616) (h0 : 0 < a) : double.div (flt a) (flt 0) = some 9218868437227405312 := by
  have fa := flt_le ha
  have fa1 : 4607182418800017408 ≤ flt a := by rw [← flt_one]; exact flt_mono h0
  obtain ⟨m, i, a1, a2, a3, a4, a5, a6⟩ := read_fin2 (r := flt a) (by omega)
  have hm := a6 (by omega)
  unfold Format.div
  rw [flt_zero, a1, read_zero]
  simp only [Datum.quotient]
  rw [if_pos trivial, if_neg (by omega)]
  rfl

theorem share_none : double.div (flt 0) (flt 0) = none := by rw [flt_zero]; decide
theorem mean_none : double.div 0 0 = none := by decide

/-- Where the model draws a NaN. -/
theorem nan_drawn (x y t : Nat) : isNanN ((Question.nanBits .f64 x y).cut t) = true ∧ (Question.nanBits .f64 x y).cut t < 18446744073709551616 := by
  have e : (Question.nanBits .f64 x y).cut t = (t % 2) * 9223372036854775808 + 9218868437227405312 + 1 + (t / 2) % 4503599627370495 := rfl
  rw [e]
  have h1 : t % 2 < 2 := Nat.mod_lt _ (by decide)
  have h2 : (t / 2) % 4503599627370495 < 4503599627370495 := Nat.mod_lt _ (by decide)
  generalize t % 2 = s at h1
  generalize (t / 2) % 4503599627370495 = k at h2
  refine ⟨?_, by omega⟩
  have hm : (s * 9223372036854775808 + 9218868437227405312 + 1 + k) % 9223372036854775808 = 9218868437227405312 + 1 + k := by omega
  unfold isNanN Format.read
  simp only [swD, binD, infD, lpD, hm]
  rw [if_neg (by omega), if_neg (by omega), if_neg (by omega)]
  rfl

theorem nan_order {x : Nat} (h : isNanN x = true) (y : Nat) : double.order x y = none ∧ double.order y x = none := by
  unfold isNanN at h
  cases hx : double.read x with
  | nan s t =>
    unfold Format.order
    rw [hx]
    refine ⟨?_, ?_⟩
    · cases double.read y <;> rfl
    · cases double.read y <;> rfl
  | number => rw [hx] at h; cases h
  | infinity => rw [hx] at h; cases h

theorem not_nan {r : Nat} (h : r ≤ 9218868437227405312) : isNanN r = false := by
  unfold isNanN
  rcases Nat.lt_or_eq_of_le h with h | rfl
  · obtain ⟨m, i, h1, _, _⟩ := read_fin h; rw [h1]; rfl
  · rw [read_inf]; rfl

end Go.Eng

namespace Go.Eng
open Ieee

theorem clean_eq {x : Nat} (hx : x < 18446744073709551616) (h : double.order x 0 = some .eq) : cleanN x = 0 := by
  cases make_of hx with
  | fin r hr e =>
    subst e
    rw [order_word (Nat.le_of_lt hr) (by decide)] at h
    have : x = 0 := Nat.compare_eq_eq.1 (Option.some.inj h)
    subst this; rfl
  | neg r hr e =>
    subst e
    obtain ⟨m, i, h1, h2, h3⟩ := read_fin hr
    have hn : ∀ k, signed true m k = -((m * 2 ^ k : Nat) : Int) := by intro k; simp [signed, Nat.shiftLeft_eq]
    unfold Format.order at h
    rw [read_neg hr h1, read_zero] at h
    simp only [Datum.order, hn, signed_false, Nat.zero_mul, Option.some.injEq] at h
    have h0 := Int.compare_eq_eq.1 h
    have hm : m = 0 := by
      rcases Nat.eq_zero_or_pos m with g | g
      · exact g
      · have := Nat.mul_pos g (Nat.two_pow_pos (i - min i (-1074)).toNat)
        omega
    rw [hm, Nat.zero_mul] at h3
    have hr0 : r = 0 := by
      rcases Nat.eq_zero_or_pos r with g | g
      · exact g
      · have := unit_strict g; omega
    subst hr0; rfl
  | inf s e => subst e; cases s <;> simp [Format.order, read_pinf, read_ninf, read_zero, Datum.order] at h
  | nan s t hn => unfold Format.order at h; rw [hn] at h; simp [Datum.order] at h

theorem clean_ne {x : Nat} (h : double.order x 0 ≠ some .eq) : cleanN x = x := by
  unfold cleanN
  split
  · rename_i e; subst e; exact absurd (by decide) h
  · rfl

theorem clean_nan (x : Nat) : isNanN (cleanN x) = isNanN x := by
  unfold cleanN
  split
  · rename_i e; subst e; decide
  · rfl

theorem clean_ne_neg (x : Nat) : cleanN x ≠ 9223372036854775808 := by unfold cleanN; split <;> omega

theorem flt_one_int : floatOfInt .f64 1 = 4607182418800017408 := by
  have h := nearest_nat 1
  rw [rung_u1] at h
  exact h
theorem flt_zero_int : floatOfInt .f64 0 = 0 := by decide

end Go.Eng

namespace Go.Eng
open Ieee

/-! ### the order of all words of float64 -/

/-- The place of a word among the words that are numbers: noughts at 0. -/
def ordN (x : Nat) : Int := if x < 9223372036854775808 then x else -((x - 9223372036854775808 : Nat) : Int)

def sgnI (s : Bool) (n : Nat) : Int := if s then -(n : Int) else n

theorem signed_sgn (s : Bool) (m k : Nat) : signed s m k = sgnI s (m * 2 ^ k) := by
  cases s <;> simp [signed, sgnI, Nat.shiftLeft_eq]

theorem sgn_mul (s : Bool) (a k : Nat) : sgnI s (a * k) = sgnI s a * k := by
  cases s <;> simp [sgnI, Int.natCast_mul, Int.neg_mul]

theorem compare_mul {x y : Int} {k : Nat} (hk : 0 < k) : compare (x * k) (y * k) = compare x y := by
  have h1 : x * k < y * k ↔ x < y := Int.mul_lt_mul_right (by omega)
  have h2 : x * k = y * k ↔ x = y := Int.mul_eq_mul_right_iff (by omega)
  simp only [compare, compareOfLessAndEq, h1, h2]

theorem compare_sgn_unit (s t : Bool) (a b : Nat) : compare (sgnI s (unit a)) (sgnI t (unit b)) = compare (sgnI s a) (sgnI t b) := by
  have h0 : unit 0 = 0 := by decide
  have lt : ∀ {x y}, x < y ↔ unit x < unit y := fun {x y} => ⟨unit_strict, fun h => by
    rcases Nat.lt_or_ge x y with g | g
    · exact g
    · exact absurd (unit_mono g) (by omega)⟩
  have hab : a < b ↔ unit a < unit b := lt
  have hba : b < a ↔ unit b < unit a := lt
  have ha : 0 < a ↔ 0 < unit a := by have := @lt 0 a; rwa [h0] at this
  have hb : 0 < b ↔ 0 < unit b := by have := @lt 0 b; rwa [h0] at this
  have e : ∀ (x y x' y' : Int), (x < y ↔ x' < y') → (x = y ↔ x' = y') → compare x y = compare x' y' := by
    intro x y x' y' h1 h2
    simp only [compare, compareOfLessAndEq, h1, h2]
  apply e
  · cases s <;> cases t <;> simp only [sgnI, if_true, Bool.false_eq_true, if_false] <;> omega
  · cases s <;> cases t <;> simp only [sgnI, if_true, Bool.false_eq_true, if_false] <;> omega

/-- A word that is a number, finite. -/
structure Fin64 (x : Nat) (s : Bool) (r : Nat) : Prop where
  lt : r < 9218868437227405312
  ord : ordN x = sgnI s r
  rd : ∃ m i, double.read x = .number s m i ∧ -1074 ≤ i ∧ unit r = m * 2 ^ (i + 1074).toNat

theorem fin_of {r : Nat} (h : r < 9218868437227405312) : Fin64 r false r :=
  ⟨h, by unfold ordN sgnI; rw [if_pos (by omega)]; simp, read_fin h⟩
theorem neg_of {r : Nat} (h : r < 9218868437227405312) : Fin64 (9223372036854775808 + r) true r :=
  ⟨h, by unfold ordN sgnI; rw [if_neg (by omega)]; simp, by
    obtain ⟨m, i, h1, h2, h3⟩ := read_fin h
    exact ⟨m, i, read_neg h h1, h2, h3⟩⟩

theorem ord_inf (s : Bool) : ordN (double.word s 9218868437227405312) = sgnI s 9218868437227405312 := by cases s <;> decide
theorem read_infs (s : Bool) : double.read (double.word s 9218868437227405312) = .infinity s := by cases s <;> decide

theorem compare_lt {x y : Int} (h : x < y) : compare x y = .lt := by simp [compare, compareOfLessAndEq, h]
theorem compare_gt {x y : Int} (h : y < x) : compare x y = .gt := by
  have h1 : ¬ x < y := by omega
  have h2 : ¬ x = y := by omega
  simp [compare, compareOfLessAndEq, h1, h2]

theorem order_fin {x y r q : Nat} {s t : Bool} (hx : Fin64 x s r) (hy : Fin64 y t q) : double.order x y = some (compare (ordN x) (ordN y)) := by
  obtain ⟨m, i, h1, h2, h3⟩ := hx.rd
  obtain ⟨n, j, g1, g2, g3⟩ := hy.rd
  unfold Format.order
  rw [h1, g1, hx.ord, hy.ord]
  simp only [Datum.order, signed_sgn, Option.some.injEq]
  have e1 : (i + 1074).toNat = (i - min i j).toNat + (min i j + 1074).toNat := by omega
  have e2 : (j + 1074).toNat = (j - min i j).toNat + (min i j + 1074).toNat := by omega
  rw [e1, Nat.pow_add, ← Nat.mul_assoc] at h3
  rw [e2, Nat.pow_add, ← Nat.mul_assoc] at g3
  rw [← compare_sgn_unit s t r q, h3, g3, sgn_mul s (m * 2 ^ (i - min i j).toNat), sgn_mul t (n * 2 ^ (j - min i j).toNat), compare_mul (Nat.two_pow_pos _)]

theorem order_fin_inf {x r : Nat} {s : Bool} (t : Bool) (hx : Fin64 x s r) : double.order x (double.word t 9218868437227405312) = some (compare (ordN x) (ordN (double.word t 9218868437227405312))) := by
  obtain ⟨m, i, h1, h2, h3⟩ := hx.rd
  have hl := hx.lt
  unfold Format.order
  rw [h1, read_infs, hx.ord, ord_inf]
  simp only [Datum.order, Option.some.injEq]
  cases t
  · exact (compare_lt (by cases s <;> simp only [sgnI, if_true, Bool.false_eq_true, if_false] <;> omega)).symm
  · exact (compare_gt (by cases s <;> simp only [sgnI, if_true, Bool.false_eq_true, if_false] <;> omega)).symm

theorem order_inf_fin {x r : Nat} {s : Bool} (t : Bool) (hx : Fin64 x s r) : double.order (double.word t 9218868437227405312) x = some (compare (ordN (double.word t 9218868437227405312)) (ordN x)) := by
  obtain ⟨m, i, h1, h2, h3⟩ := hx.rd
  have hl := hx.lt
  unfold Format.order
  rw [h1, read_infs, hx.ord, ord_inf]
  simp only [Datum.order, Option.some.injEq]
  cases t
  · exact (compare_gt (by cases s <;> simp only [sgnI, if_true, Bool.false_eq_true, if_false] <;> omega)).symm
  · exact (compare_lt (by cases s <;> simp only [sgnI, if_true, Bool.false_eq_true, if_false] <;> omega)).symm

theorem order_all {x y : Nat} (hx : x < 18446744073709551616) (hy : y < 18446744073709551616) (nx : isNanN x = false) (ny : isNanN y = false) : double.order x y = some (compare (ordN x) (ordN y)) := by
  cases make_of hx with
  | fin r h e =>
    subst e
    cases make_of hy with
    | fin q k e => subst e; exact order_fin (fin_of h) (fin_of k)
    | neg q k e => subst e; exact order_fin (fin_of h) (neg_of k)
    | inf t e => subst e; exact order_fin_inf t (fin_of h)
    | nan t u e => unfold isNanN at ny; rw [e] at ny; cases ny
  | neg r h e =>
    subst e
    cases make_of hy with
    | fin q k e => subst e; exact order_fin (neg_of h) (fin_of k)
    | neg q k e => subst e; exact order_fin (neg_of h) (neg_of k)
    | inf t e => subst e; exact order_fin_inf t (neg_of h)
    | nan t u e => unfold isNanN at ny; rw [e] at ny; cases ny
  | inf s e =>
    subst e
    cases make_of hy with
    | fin q k e => subst e; exact order_inf_fin s (fin_of k)
    | neg q k e => subst e; exact order_inf_fin s (neg_of k)
    | inf t e => subst e; cases s <;> cases t <;> decide
    | nan t u e => unfold isNanN at ny; rw [e] at ny; cases ny
  | nan s u e => unfold isNanN at nx; rw [e] at nx; cases nx

theorem order_nan {x y : Nat} (h : isNanN x = true ∨ isNanN y = true) : double.order x y = none := by
  have : ∀ d : Datum, d.isNaN = true → ∃ s t, d = .nan s t := fun d h => by cases d <;> first | exact ⟨_, _, rfl⟩ | cases h
  unfold Format.order
  rcases h with h | h
  · obtain ⟨s, t, e⟩ := this _ h; rw [e]; rfl
  · obtain ⟨s, t, e⟩ := this _ h; rw [e]; cases double.read x <;> rfl

/-- The key by which ratio.Cmp orders: nothing is behind all; a nought below is ahead. -/
def keyN (x : Nat) : Int := if isNanN x then 36893488147419103232 else 2 * ordN x + (if x < 9223372036854775808 then 1 else 0)

theorem ordN_bound {x : Nat} (hx : x < 18446744073709551616) : -9223372036854775808 < ordN x ∧ ordN x < 9223372036854775808 := by
  unfold ordN; split <;> omega

/-- The words of one key are both nothing, or one. -/
theorem keyN_inj {x y : Nat} (hx : x < 18446744073709551616) (hy : y < 18446744073709551616) : keyN x = keyN y ↔ (isNanN x = true ∧ isNanN y = true) ∨ x = y := by
  have bx := ordN_bound hx
  have by' := ordN_bound hy
  constructor
  · intro h
    unfold keyN at h
    by_cases nx : isNanN x = true <;> by_cases ny : isNanN y = true
    · exact .inl ⟨nx, ny⟩
    · rw [if_pos nx, if_neg ny] at h; split at h <;> omega
    · rw [if_neg nx, if_pos ny] at h; split at h <;> omega
    · rw [if_neg nx, if_neg ny] at h
      right
      unfold ordN at h
      repeat' split at h
      all_goals omega
  · rintro (⟨h1, h2⟩ | rfl)
    · unfold keyN; rw [if_pos h1, if_pos h2]
    · rfl

/-- Two lists of numbers, both in order, of the same numbers, are one. -/
theorem eq_of_ordered : ∀ (l m : List Int), l.Perm m → l.Pairwise (· ≤ ·) → m.Pairwise (· ≤ ·) → l = m
  | [], m, h, _, _ => by rw [List.nil_perm.1 h]
  | a :: l, [], h, _, _ => by have := h.length_eq; simp at this
  | a :: l, b :: m, h, h1, h2 => by
    have hb : a = b := by
      have i1 : a ∈ b :: m := h.subset (List.mem_cons_self ..)
      have i2 : b ∈ a :: l := h.symm.subset (List.mem_cons_self ..)
      rw [List.pairwise_cons] at h1 h2
      rcases List.mem_cons.1 i1 with e | e
      · exact e
      · rcases List.mem_cons.1 i2 with e' | e'
        · exact e'.symm
        · have := h1.1 b e'; have := h2.1 a e; omega
    subst hb
    rw [eq_of_ordered l m (List.Perm.cons_inv h) (List.pairwise_cons.1 h1).2 (List.pairwise_cons.1 h2).2]

end Go.Eng
