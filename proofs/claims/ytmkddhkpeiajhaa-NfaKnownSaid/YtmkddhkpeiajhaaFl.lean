/-
  Whole numbers as float64: below 2^53 sums, differences and products of whole numbers are exact; conversions go back; the order is the numbers' order. Plain law: no program in sight.
-/
import Derived.Laws.FloatArith
import Derived.Laws.ComplexArith
namespace Go.Proofs.Ytmkddhkpeiajhaa
open Ieee

/-- the float of a whole number -/
abbrev fl (n : Int) : Nat := floatOfInt .f64 n

theorem fl_def (n : Int) : fl n = double.nearest (decide (n < 0)) n.natAbs 0 := rfl

theorem log2_shift (m K : Nat) (h : m ≠ 0) : (m * 2 ^ K).log2 = m.log2 + K := by
  have hp : 0 < 2 ^ K := Nat.two_pow_pos K
  have h2 : m * 2 ^ K ≠ 0 := by
    intro e
    rcases Nat.mul_eq_zero.1 e with e | e
    · exact h e
    · omega
  have a := Nat.log2_self_le h
  have b := Nat.lt_log2_self (n := m)
  refine (Nat.log2_eq_iff h2).2 ⟨?_, ?_⟩
  · rw [Nat.pow_add]; exact Nat.mul_le_mul_right _ a
  · rw [show m.log2 + K + 1 = (m.log2 + 1) + K from by omega, Nat.pow_add]; exact Nat.mul_lt_mul_of_pos_right b hp

theorem log2_le_52 (m : Nat) (h : m < 2 ^ 53) (h0 : m ≠ 0) : m.log2 ≤ 52 := by
  have := (Nat.log2_lt h0 (k := 53)).2 h
  omega

theorem cut_exact (neg : Bool) (a K : Nat) (ha : a ≠ 0) : Toward.even.cut neg (a * 2 ^ K) K = a := by
  unfold Toward.cut
  have e : min K ((a * 2 ^ K).log2 + 2) = K := by rw [log2_shift a K ha]; omega
  have hp : 0 < 2 ^ K := Nat.two_pow_pos K
  simp only [e, Nat.shiftLeft_eq, Nat.one_mul, Nat.mul_div_cancel _ hp, Nat.mul_mod_left]
  have h1 : ¬ (2 ^ K < 2 * 0) := by omega
  have h2 : (2 ^ K == 2 * 0) = false := by
    rw [beq_eq_false_iff_ne]; omega
  simp [h2]

/-- the rung of a whole number that is not nought: 'mag * 2 ^ K' of units '2 ^ -K' -/
theorem nearest_exact (neg : Bool) (m K : Nat) (h : m < 2 ^ 53) (h0 : m ≠ 0) :
    double.nearest neg (m * 2 ^ K) (-(K : Int)) = double.word neg ((1074 - (52 - m.log2)) * 2 ^ 52 + m * 2 ^ (52 - m.log2)) := by
  have hl := log2_le_52 m h h0
  have hp : 0 < 2 ^ K := Nat.two_pow_pos K
  have hne : m * 2 ^ K ≠ 0 := by
    intro e
    rcases Nat.mul_eq_zero.1 e with e | e
    · exact h0 e
    · omega
  have hb := Nat.lt_log2_self (n := m)
  have hlp : double.leastPlace = -1074 := by decide
  have hbin : double.binade = 2 ^ 52 := rfl
  have hinf : double.infRung = 2047 * 2 ^ 52 := by decide
  have hfb : double.fractionBits = 52 := rfl
  generalize hd : 52 - m.log2 = d at *
  have hm2 : m * 2 ^ d < 2 ^ 53 := by
    have : 2 ^ (m.log2 + 1) * 2 ^ d = 2 ^ 53 := by rw [← Nat.pow_add]; congr 1; omega
    rw [← this]; exact Nat.mul_lt_mul_of_pos_right hb (Nat.two_pow_pos d)
  unfold Format.nearest
  rw [if_neg hne, log2_shift m K h0, hfb, hlp, hbin, hinf]
  have elast : max (-(K : Int) + ((m.log2 + K : Nat) : Int) - (52 : Nat)) (-1074) = -(d : Int) := by omega
  have ekept : Toward.even.cut neg ((m * 2 ^ K) <<< (-(K : Int) - -(d : Int)).toNat) (-(d : Int) - -(K : Int)).toNat = m * 2 ^ d := by
    by_cases hk : K ≤ d
    · rw [show (-(K : Int) - -(d : Int)).toNat = d - K from by omega, show (-(d : Int) - -(K : Int)).toNat = 0 from by omega]
      rw [Nat.shiftLeft_eq, Nat.mul_assoc, ← Nat.pow_add, show K + (d - K) = d from by omega]
      have := cut_exact neg (m * 2 ^ d) 0 (by
        intro e
        rcases Nat.mul_eq_zero.1 e with e | e
        · exact h0 e
        · have := Nat.two_pow_pos d; omega)
      simpa using this
    · rw [show (-(K : Int) - -(d : Int)).toNat = 0 from by omega, show (-(d : Int) - -(K : Int)).toNat = K - d from by omega]
      rw [Nat.shiftLeft_zero]
      have e : m * 2 ^ K = (m * 2 ^ d) * 2 ^ (K - d) := by rw [Nat.mul_assoc, ← Nat.pow_add]; congr 2; omega
      rw [e]
      exact cut_exact neg (m * 2 ^ d) (K - d) (by
        intro e
        rcases Nat.mul_eq_zero.1 e with e | e
        · exact h0 e
        · have := Nat.two_pow_pos d; omega)
  rw [elast]
  dsimp only
  rw [ekept]
  have e3 : (-(d : Int) - -1074).toNat = 1074 - d := by omega
  rw [e3, Nat.min_eq_left (by omega)]

theorem nearest_zero (neg : Bool) (p : Int) : double.nearest neg 0 p = double.word neg 0 := by
  unfold Format.nearest; rw [if_pos rfl]

/-- the word of 'm * 2 ^ K' units '2 ^ -K' is the word of m -/
theorem nearest_same (neg : Bool) (m K : Nat) (h : m < 2 ^ 53) : double.nearest neg (m * 2 ^ K) (-(K : Int)) = double.nearest neg m 0 := by
  by_cases h0 : m = 0
  · subst h0; rw [Nat.zero_mul, nearest_zero, nearest_zero]
  · rw [nearest_exact neg m K h h0]
    have := nearest_exact neg m 0 h h0
    simpa using this.symm

/-- what the word of a whole number is read as -/
theorem read_nearest (neg : Bool) (m : Nat) (h : m < 2 ^ 53) : ∃ k : Nat, double.read (double.nearest neg m 0) = .number neg (m * 2 ^ k) (-(k : Int)) := by
  have hlp : double.leastPlace = -1074 := by decide
  have hbin : double.binade = 2 ^ 52 := rfl
  have hinf : double.infRung = 2047 * 2 ^ 52 := by decide
  have hsw : double.signWeight = 2 ^ 63 := rfl
  by_cases h0 : m = 0
  · subst h0
    refine ⟨1074, ?_⟩
    cases neg <;> decide +kernel
  · have e := nearest_exact neg m 0 h h0
    have hl := log2_le_52 m h h0
    have ha := Nat.log2_self_le h0
    have hb := Nat.lt_log2_self (n := m)
    refine ⟨52 - m.log2, ?_⟩
    have e' : double.nearest neg m 0 = double.nearest neg (m * 2 ^ 0) (-((0 : Nat) : Int)) := by simp
    rw [e', e]
    generalize hd : 52 - m.log2 = d at *
    have hm2 : m * 2 ^ d < 2 ^ 53 := by
      have : 2 ^ (m.log2 + 1) * 2 ^ d = 2 ^ 53 := by rw [← Nat.pow_add]; congr 1; omega
      rw [← this]; exact Nat.mul_lt_mul_of_pos_right hb (Nat.two_pow_pos d)
    have hm1 : 2 ^ 52 ≤ m * 2 ^ d := by
      have : 2 ^ m.log2 * 2 ^ d = 2 ^ 52 := by rw [← Nat.pow_add]; congr 1; omega
      rw [← this]; exact Nat.mul_le_mul_right _ ha
    generalize m * 2 ^ d = q at *
    have hr : (1074 - d) * 2 ^ 52 + q < 2 ^ 63 := by omega
    unfold Format.read Format.word
    simp only [hlp, hbin, hinf, hsw]
    have hneg : ((if neg = true then 2 ^ 63 + ((1074 - d) * 2 ^ 52 + q) else (1074 - d) * 2 ^ 52 + q) / 2 ^ 63 % 2 == 1) = neg := by
      cases neg
      · rw [if_neg (by simp)]
        rw [beq_eq_false_iff_ne]; omega
      · rw [if_pos rfl]
        rw [beq_iff_eq]; omega
    have hrung : (if neg = true then 2 ^ 63 + ((1074 - d) * 2 ^ 52 + q) else (1074 - d) * 2 ^ 52 + q) % 2 ^ 63 = (1074 - d) * 2 ^ 52 + q := by
      cases neg
      · rw [if_neg (by simp)]; omega
      · rw [if_pos rfl]; omega
    rw [hneg, hrung]
    rw [if_neg (by omega), if_pos (by omega)]
    congr 1
    · omega
    · omega

theorem read_fl (n : Int) (h : n.natAbs < 2 ^ 53) : ∃ k : Nat, double.read (fl n) = .number (decide (n < 0)) (n.natAbs * 2 ^ k) (-(k : Int)) := read_nearest _ _ h

theorem signed_abs (n : Int) (K : Nat) : signed (decide (n < 0)) (n.natAbs * 2 ^ K) 0 = n * 2 ^ K := by
  unfold signed
  simp only [Nat.shiftLeft_zero]
  by_cases h : n < 0
  · rw [if_pos (by simpa using h)]
    rw [Int.natCast_mul, Int.natCast_pow]
    rw [show ((n.natAbs : Nat) : Int) = -n from by omega]
    rw [show ((2 : Nat) : Int) = 2 from rfl, Int.neg_mul, Int.neg_neg]
  · rw [if_neg (by simpa using h)]
    rw [Int.natCast_mul, Int.natCast_pow]
    rw [show ((n.natAbs : Nat) : Int) = n from by omega]
    rfl

theorem signed_up (n : Int) (k u : Nat) : signed (decide (n < 0)) (n.natAbs * 2 ^ k) u = n * 2 ^ (k + u) := by
  have := signed_abs n (k + u)
  rw [← this]
  unfold signed
  simp only [Nat.shiftLeft_eq, Nat.mul_assoc, ← Nat.pow_add, Nat.pow_zero, Nat.mul_one]

theorem mul_pow_sign (n : Int) (K : Nat) : (n * 2 ^ K < 0 ↔ n < 0) ∧ (n * 2 ^ K = 0 ↔ n = 0) ∧ (n * 2 ^ K).natAbs = n.natAbs * 2 ^ K := by
  have hp : (0 : Int) < 2 ^ K := Int.pow_pos (by decide)
  refine ⟨⟨fun h => ?_, fun h => ?_⟩, ⟨fun h => ?_, fun h => ?_⟩, ?_⟩
  · rcases Int.lt_or_le n 0 with a | a
    · exact a
    · have := Int.mul_nonneg a (Int.le_of_lt hp); omega
  · exact Int.mul_neg_of_neg_of_pos h hp
  · rcases Int.mul_eq_zero.1 h with a | a
    · exact a
    · omega
  · subst h; simp
  · rw [Int.natAbs_mul, Int.natAbs_pow]; rfl

/-- the word of a sum 'n * 2 ^ K' of units '2 ^ -K', whatever its sign bit was reckoned as at nought -/
theorem write_fl (n : Int) (K : Nat) (h : n.natAbs < 2 ^ 53) (z : Bool) (hz : n = 0 → z = false) :
    double.write (.number (if n * 2 ^ K = 0 then z else decide (n * 2 ^ K < 0)) (n * 2 ^ K).natAbs (-(K : Int))) = fl n := by
  obtain ⟨h1, h2, h3⟩ := mul_pow_sign n K
  show double.nearest _ _ _ = _
  rw [h3, nearest_same _ _ _ h, fl_def]
  by_cases e : n = 0
  · subst e; rw [hz rfl]; simp
  · have : ¬ n * 2 ^ K = 0 := fun x => e (h2.1 x)
    rw [if_neg this]
    congr 1
    by_cases c : n < 0 <;> simp [c, h1]

theorem place_min (k l : Nat) : min (-(k : Int)) (-(l : Int)) = -((max k l : Nat) : Int) := by omega

theorem fl_add (a b : Int) (ha : a.natAbs < 2 ^ 53) (hb : b.natAbs < 2 ^ 53) (hc : (a + b).natAbs < 2 ^ 53) : double.add (fl a) (fl b) = some (fl (a + b)) := by
  obtain ⟨k, hk⟩ := read_fl a ha
  obtain ⟨l, hl⟩ := read_fl b hb
  unfold Format.add
  rw [hk, hl]
  unfold Datum.sum
  simp only [place_min, Option.map_some]
  rw [show (-(k : Int) - -((max k l : Nat) : Int)).toNat = max k l - k from by omega, show (-(l : Int) - -((max k l : Nat) : Int)).toNat = max k l - l from by omega]
  rw [signed_up, signed_up, show k + (max k l - k) = max k l from by omega, show l + (max k l - l) = max k l from by omega, ← Int.add_mul]
  congr 1
  rw [← write_fl (a + b) (max k l) hc (decide (a < 0) && decide (b < 0)) (by intro h; simp; omega)]

theorem neg_opp (b : Int) (l : Nat) (h : b ≠ 0) : Datum.opposite (.number (decide (b < 0)) (b.natAbs * 2 ^ l) (-(l : Int))) = .number (decide (-b < 0)) ((-b).natAbs * 2 ^ l) (-(l : Int)) := by
  unfold Datum.opposite
  simp only [Int.natAbs_neg]
  congr 1
  by_cases c : b < 0
  · simp [c]; omega
  · simp [c]; omega

theorem fl_sub (a b : Int) (ha : a.natAbs < 2 ^ 53) (hb : b.natAbs < 2 ^ 53) (hc : (a - b).natAbs < 2 ^ 53) : double.sub (fl a) (fl b) = some (fl (a - b)) := by
  obtain ⟨k, hk⟩ := read_fl a ha
  obtain ⟨l, hl⟩ := read_fl b hb
  unfold Format.sub
  rw [hk, hl]
  have e : signed (!decide (b < 0)) (b.natAbs * 2 ^ l) (max k l - l) = (-b) * 2 ^ (l + (max k l - l)) := by
    by_cases c : b < 0
    · have := signed_up b l (max k l - l)
      rw [Int.neg_mul, ← this]; simp [signed, c]
    · have := signed_up b l (max k l - l)
      rw [Int.neg_mul, ← this]; simp [signed, c]
  unfold Datum.opposite Datum.sum
  simp only [place_min, Option.map_some]
  rw [show (-(k : Int) - -((max k l : Nat) : Int)).toNat = max k l - k from by omega, show (-(l : Int) - -((max k l : Nat) : Int)).toNat = max k l - l from by omega]
  rw [signed_up, e, show k + (max k l - k) = max k l from by omega, show l + (max k l - l) = max k l from by omega, ← Int.add_mul, ← Int.sub_eq_add_neg]
  congr 1
  rw [← write_fl (a - b) (max k l) hc (decide (a < 0) && !decide (b < 0)) (by intro h; simp; omega)]

/-- a product of two numbers that are not below nought -/
theorem fl_mul (a b : Int) (ha : a.natAbs < 2 ^ 53) (hb : b.natAbs < 2 ^ 53) (hc : (a * b).natAbs < 2 ^ 53) (h0 : 0 ≤ a) (h1 : 0 ≤ b) : double.mul (fl a) (fl b) = some (fl (a * b)) := by
  obtain ⟨k, hk⟩ := read_fl a ha
  obtain ⟨l, hl⟩ := read_fl b hb
  unfold Format.mul
  rw [hk, hl]
  unfold Datum.product
  simp only [Option.map_some]
  have hab := Int.mul_nonneg h0 h1
  have e1 : decide (a < 0) = false := by simp; omega
  have e2 : decide (b < 0) = false := by simp; omega
  have e3 : decide (a * b < 0) = false := by simp; omega
  congr 1
  show double.nearest _ _ _ = _
  rw [fl_def, e1, e2, e3, ← nearest_same _ (a * b).natAbs (k + l) hc]
  rw [show (-(k : Int) + -(l : Int)) = -((k + l : Nat) : Int) from by omega]
  congr 1
  rw [Int.natAbs_mul, Nat.pow_add, Nat.mul_mul_mul_comm]

theorem fl_order (a b : Int) (ha : a.natAbs < 2 ^ 53) (hb : b.natAbs < 2 ^ 53) : double.order (fl a) (fl b) = some (compare a b) := by
  obtain ⟨k, hk⟩ := read_fl a ha
  obtain ⟨l, hl⟩ := read_fl b hb
  unfold Format.order
  rw [hk, hl]
  unfold Datum.order
  simp only [place_min]
  rw [show (-(k : Int) - -((max k l : Nat) : Int)).toNat = max k l - k from by omega, show (-(l : Int) - -((max k l : Nat) : Int)).toNat = max k l - l from by omega]
  rw [signed_up, signed_up, show k + (max k l - k) = max k l from by omega, show l + (max k l - l) = max k l from by omega]
  have hp : (0 : Int) < 2 ^ (max k l) := Int.pow_pos (by decide)
  congr 1
  rcases Int.lt_trichotomy a b with h | h | h
  · have : a * 2 ^ (max k l) < b * 2 ^ (max k l) := Int.mul_lt_mul_of_pos_right h hp
    simp only [compare, compareOfLessAndEq, if_pos this, if_pos h]
  · subst h; simp [compare, compareOfLessAndEq]
  · have : b * 2 ^ (max k l) < a * 2 ^ (max k l) := Int.mul_lt_mul_of_pos_right h hp
    have g1 : ¬ a * 2 ^ (max k l) < b * 2 ^ (max k l) := by omega
    have g2 : ¬ a * 2 ^ (max k l) = b * 2 ^ (max k l) := by omega
    have g3 : ¬ a < b := by omega
    have g4 : ¬ a = b := by omega
    simp only [compare, compareOfLessAndEq, if_neg g1, if_neg g2, if_neg g3, if_neg g4]

theorem fl_eq (a b : Int) (ha : a.natAbs < 2 ^ 53) (hb : b.natAbs < 2 ^ 53) : (FloatKind.f64.format.order (fl a) (fl b) == some Ordering.eq) = decide (a = b) := by
  show (double.order (fl a) (fl b) == some Ordering.eq) = _
  rw [fl_order a b ha hb]
  rcases Int.lt_trichotomy a b with h | h | h
  · have g : ¬ a = b := by omega
    simp [compare, compareOfLessAndEq, h, g]
  · subst h; simp [compare, compareOfLessAndEq]
  · have g3 : ¬ a < b := by omega
    have g4 : ¬ a = b := by omega
    simp [compare, compareOfLessAndEq, g3, g4]

theorem cut_zero (neg : Bool) (a K : Nat) : Toward.zero.cut neg (a * 2 ^ K) K = a := by
  by_cases ha : a = 0
  · subst ha; simp [Toward.cut]
  unfold Toward.cut
  have e : min K ((a * 2 ^ K).log2 + 2) = K := by rw [log2_shift a K ha]; omega
  have hp : 0 < 2 ^ K := Nat.two_pow_pos K
  simp only [e, Nat.shiftLeft_eq, Nat.one_mul, Nat.mul_div_cancel _ hp]
  simp

theorem fl_toInt (a : Int) (ha : a.natAbs < 2 ^ 53) : (FloatKind.f64.decode (fl a)).toInt .zero = some a := by
  obtain ⟨k, hk⟩ := read_fl a ha
  show (double.read (fl a)).toInt .zero = some a
  rw [hk]
  unfold Datum.toInt Datum.integral
  simp only
  have e := signed_abs a 0
  simp only [Nat.pow_zero, Nat.mul_one] at e
  rw [show (-(k : Int)).toNat = 0 from by omega, show (-(-(k : Int))).toNat = k from by omega, Nat.shiftLeft_zero, cut_zero, e]
  simp

theorem fl_toIntVal (a : Int) (ha : a.natAbs < 2 ^ 53) (k : IntKind) (h1 : k.min ≤ a) (h2 : a ≤ k.max) : floatToIntVal .f64 (fl a) k = some a := by
  unfold floatToIntVal
  rw [fl_toInt a ha]
  simp [h1, h2]

theorem i64_min : IntKind.i64.min = -9223372036854775808 := by decide
theorem i64_max : IntKind.i64.max = 9223372036854775807 := by decide
theorem u32_min : IntKind.u32.min = 0 := by decide
theorem u32_max : IntKind.u32.max = 4294967295 := by decide

theorem fl_toI64 (a : Int) (ha : a.natAbs < 2 ^ 53) : floatToIntVal .f64 (fl a) .i64 = some a :=
  fl_toIntVal a ha .i64 (by rw [i64_min]; omega) (by rw [i64_max]; omega)
theorem fl_toU32 (a : Int) (h0 : 0 ≤ a) (h1 : a < 4294967296) : floatToIntVal .f64 (fl a) .u32 = some a :=
  fl_toIntVal a (by omega) .u32 (by rw [u32_min]; omega) (by rw [u32_max]; omega)

theorem fl_wf (n : Int) : (Lit.float .f64 (fl n)).wf = true := floatOfInt_wf _ _

theorem floatBits_add (a b : Int) (ha : a.natAbs < 2 ^ 53) (hb : b.natAbs < 2 ^ 53) (hc : (a + b).natAbs < 2 ^ 53) : floatBits .add .f64 (fl a) (fl b) = some (fl (a + b)) := fl_add a b ha hb hc
theorem floatBits_sub (a b : Int) (ha : a.natAbs < 2 ^ 53) (hb : b.natAbs < 2 ^ 53) (hc : (a - b).natAbs < 2 ^ 53) : floatBits .sub .f64 (fl a) (fl b) = some (fl (a - b)) := fl_sub a b ha hb hc
theorem floatBits_mul (a b : Int) (ha : a.natAbs < 2 ^ 53) (hb : b.natAbs < 2 ^ 53) (hc : (a * b).natAbs < 2 ^ 53) (h0 : 0 ≤ a) (h1 : 0 ≤ b) : floatBits .mul .f64 (fl a) (fl b) = some (fl (a * b)) := fl_mul a b ha hb hc h0 h1

theorem fl_257 : (4643228808005025792 : Nat) = fl 257 := by decide +kernel
theorem fl_3 : (4613937818241073152 : Nat) = fl 3 := by decide +kernel
theorem fl_1 : (4607182418800017408 : Nat) = fl 1 := by decide +kernel
theorem fl_0 : (0 : Nat) = fl 0 := by decide +kernel

theorem cSum_fl (a b c d : Int) (ha : a.natAbs < 2 ^ 52) (hb : b.natAbs < 2 ^ 52) (hc : c.natAbs < 2 ^ 52) (hd : d.natAbs < 2 ^ 52) :
    cSumBits .add .f64 (fl a) (fl b) (fl c) (fl d) = some (fl (a + c), fl (b + d)) := by
  unfold cSumBits
  rw [floatBits_add a c (by omega) (by omega) (by omega), floatBits_add b d (by omega) (by omega) (by omega)]
  rfl

/-- a product with 257+3i of a number whose parts are not below nought -/
theorem cMul_fl (a b : Int) (ha : a.natAbs < 2 ^ 40) (hb : b.natAbs < 2 ^ 40) (h0 : 0 ≤ a) (h1 : 0 ≤ b) :
    cMulBits (fl a) (fl b) (fl 257) (fl 3) = some (fl (a * 257 - b * 3), fl (a * 3 + b * 257)) := by
  unfold cMulBits
  rw [floatBits_mul a 257 (by omega) (by omega) (by omega) h0 (by omega), floatBits_mul b 3 (by omega) (by omega) (by omega) h1 (by omega)]
  rw [floatBits_mul a 3 (by omega) (by omega) (by omega) h0 (by omega), floatBits_mul b 257 (by omega) (by omega) (by omega) h1 (by omega)]
  simp only [Option.bind_some]
  rw [floatBits_sub (a * 257) (b * 3) (by omega) (by omega) (by omega), floatBits_add (a * 3) (b * 257) (by omega) (by omega) (by omega)]
  rfl

end Go.Proofs.Ytmkddhkpeiajhaa
