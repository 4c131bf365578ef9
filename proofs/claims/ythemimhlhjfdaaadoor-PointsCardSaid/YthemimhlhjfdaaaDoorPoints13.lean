/- Whole numbers below 2^53 are exact in float64. No condition. -/
import Derived.Laws.ComplexArith
import Derived.Laws.FloatArith
import Ieee.Arith
import Derived.Test.YthemimhlhjfdaaaDoorPoints0
import Derived.Test.YthemimhlhjfdaaaDoorPoints1
import Derived.Test.YthemimhlhjfdaaaDoorPoints2
import Derived.Test.YthemimhlhjfdaaaDoorPoints3
import Derived.Test.YthemimhlhjfdaaaDoorPoints4
import Derived.Test.YthemimhlhjfdaaaDoorPoints5
import Derived.Test.YthemimhlhjfdaaaDoorPoints6
import Derived.Test.YthemimhlhjfdaaaDoorPoints7
import Derived.Test.YthemimhlhjfdaaaDoorPoints8
import Derived.Test.YthemimhlhjfdaaaDoorPoints9
import Derived.Test.YthemimhlhjfdaaaDoorPoints10
import Derived.Test.YthemimhlhjfdaaaDoorPoints11
import Derived.Test.YthemimhlhjfdaaaDoorPoints12
set_option maxRecDepth 4000
set_option linter.unusedVariables false
namespace Go.Ab
open Ieee

/-- The word of a whole number with a sign. -/
def fw (s : Bool) (k : Nat) : Nat := double.nearest s k 0
theorem least : double.leastPlace = -1074 := by decide
theorem bin : double.binade = 2 ^ 52 := by decide
theorem sigw : double.signWeight = 2 ^ 63 := by decide
theorem infr : double.infRung = 2047 * 2 ^ 52 := by decide
/-- Cut without a rest. -/
theorem cut_zero (neg : Bool) (n : Nat) : Toward.even.cut neg n 0 = n := by
  unfold Toward.cut
  simp [Nat.mod_one]
theorem fw_pos (s : Bool) {k : Nat} (h0 : 0 < k) (h : k < 2 ^ 53) : fw s k = double.word s ((1022 + k.log2) * 2 ^ 52 + k * 2 ^ (52 - k.log2)) := by
  have hl : k.log2 ≤ 52 := by
    have := (Nat.log2_lt (by omega)).2 h
    omega
  unfold fw Format.nearest
  rw [if_neg (by omega)]
  simp only [least, bin, infr]
  have h1 : max ((0 : Int) + k.log2 - (double.fractionBits : Nat)) (-1074) = (k.log2 : Int) - 52 := by
    have : (double.fractionBits : Int) = 52 := rfl
    rw [this]; omega
  rw [h1]
  have h2 : (0 - ((k.log2 : Int) - 52)).toNat = 52 - k.log2 := by omega
  have h3 : ((k.log2 : Int) - 52 - 0).toNat = 0 := by omega
  have h4 : ((k.log2 : Int) - 52 - -1074).toNat = 1022 + k.log2 := by omega
  rw [h2, h3, h4, cut_zero, Nat.shiftLeft_eq]
  have h5 : k * 2 ^ (52 - k.log2) < 2 ^ 53 := by
    have := Nat.lt_log2_self (n := k)
    calc k * 2 ^ (52 - k.log2) < 2 ^ (k.log2 + 1) * 2 ^ (52 - k.log2) := Nat.mul_lt_mul_of_pos_right this (Nat.two_pow_pos _)
      _ = 2 ^ 53 := by rw [← Nat.pow_add]; congr 1; omega
  have h6 : (1022 + k.log2) * 2 ^ 52 + k * 2 ^ (52 - k.log2) ≤ 2047 * 2 ^ 52 := by
    generalize k * 2 ^ (52 - k.log2) = y at h5 ⊢
    omega
  rw [Nat.min_eq_left h6]
/-- What stands in such a word. -/
theorem read_fw (s : Bool) {k : Nat} (h0 : 0 < k) (h : k < 2 ^ 53) : double.read (fw s k) = .number s (k * 2 ^ (52 - k.log2)) ((k.log2 : Int) - 52) := by
  have hl : k.log2 ≤ 52 := by
    have := (Nat.log2_lt (by omega)).2 h
    omega
  have h5 : k * 2 ^ (52 - k.log2) < 2 ^ 53 := by
    have := Nat.lt_log2_self (n := k)
    calc k * 2 ^ (52 - k.log2) < 2 ^ (k.log2 + 1) * 2 ^ (52 - k.log2) := Nat.mul_lt_mul_of_pos_right this (Nat.two_pow_pos _)
      _ = 2 ^ 53 := by rw [← Nat.pow_add]; congr 1; omega
  have h6 : 2 ^ 52 ≤ k * 2 ^ (52 - k.log2) := by
    have := Nat.log2_self_le (n := k) (by omega)
    calc 2 ^ 52 = 2 ^ k.log2 * 2 ^ (52 - k.log2) := by rw [← Nat.pow_add]; congr 1; omega
      _ ≤ k * 2 ^ (52 - k.log2) := Nat.mul_le_mul_right _ this
  rw [fw_pos s h0 h]
  unfold Format.read Format.word
  simp only [sigw, bin, infr, least]
  generalize k * 2 ^ (52 - k.log2) = y at h5 h6 ⊢
  generalize k.log2 = g at hl ⊢
  have e1 : (if s = true then 2 ^ 63 + ((1022 + g) * 2 ^ 52 + y) else (1022 + g) * 2 ^ 52 + y) % 2 ^ 63 = (1022 + g) * 2 ^ 52 + y := by
    split <;> omega
  have e2 : ((if s = true then 2 ^ 63 + ((1022 + g) * 2 ^ 52 + y) else (1022 + g) * 2 ^ 52 + y) / 2 ^ 63 % 2 == 1) = s := by
    cases s
    · simp only [Bool.false_eq_true, if_false, beq_eq_false_iff_ne]; omega
    · simp only [if_true, beq_iff_eq]; omega
  have e5 : ¬ ((1022 + g) * 2 ^ 52 + y < 2 ^ 52) := by omega
  have e6 : (1022 + g) * 2 ^ 52 + y < 2047 * 2 ^ 52 := by omega
  rw [e1, e2, if_neg e5, if_pos e6]
  have e3 : ((1022 + g) * 2 ^ 52 + y) % 2 ^ 52 = y - 2 ^ 52 := by omega
  have e4 : ((1022 + g) * 2 ^ 52 + y) / 2 ^ 52 = 1023 + g := by omega
  rw [e3, e4]
  have e7 : 2 ^ 52 + (y - 2 ^ 52) = y := by omega
  have e8 : (-1074 : Int) + ((1023 + g - 1 : Nat) : Int) = (g : Int) - 52 := by omega
  rw [e7, e8]
theorem log2_mul_pow {k : Nat} (h0 : 0 < k) (p : Nat) : (k * 2 ^ p).log2 = k.log2 + p := by
  have h1 : 0 < k * 2 ^ p := Nat.mul_pos h0 (Nat.two_pow_pos p)
  rw [Nat.log2_eq_iff (by omega)]
  have h2 := Nat.log2_self_le (n := k) (by omega)
  have h3 := Nat.lt_log2_self (n := k)
  constructor
  · rw [Nat.pow_add]; exact Nat.mul_le_mul_right _ h2
  · rw [show k.log2 + p + 1 = (k.log2 + 1) + p by omega, Nat.pow_add]
    exact Nat.mul_lt_mul_of_pos_right h3 (Nat.two_pow_pos p)
/-- Cut where nothing is left over. -/
theorem cut_exact (neg : Bool) (n d : Nat) (hd : d ≤ (n * 2 ^ d).log2 + 2) : Toward.even.cut neg (n * 2 ^ d) d = n := by
  unfold Toward.cut
  rw [Nat.min_eq_left hd]
  have hp := Nat.two_pow_pos d
  simp only [Nat.shiftLeft_eq, Nat.one_mul, Nat.mul_div_cancel _ hp, Nat.mul_mod_left, Nat.mul_zero]
  have h1 : (decide (2 ^ d < 0) || (2 ^ d == 0 && n % 2 == 1)) = false := by
    have h2 : (2 ^ d == 0) = false := by simp
    rw [h2]; simp
  rw [h1]; rfl
/-- A datum that is a whole number below 2^53 is written as that number is. -/
theorem write_exact (s : Bool) {k : Nat} (h0 : 0 < k) (h : k < 2 ^ 53) (p : Nat) : double.nearest s (k * 2 ^ p) (-(p : Int)) = fw s k := by
  have hl : k.log2 ≤ 52 := by
    have := (Nat.log2_lt (by omega)).2 h
    omega
  rw [fw_pos s h0 h]
  unfold Format.nearest
  have h1 : 0 < k * 2 ^ p := Nat.mul_pos h0 (Nat.two_pow_pos p)
  rw [if_neg (by omega)]
  simp only [least, bin, infr, log2_mul_pow h0]
  have e1 : max (-(p : Int) + ((k.log2 + p : Nat) : Int) - (double.fractionBits : Nat)) (-1074) = (k.log2 : Int) - 52 := by
    have : (double.fractionBits : Int) = 52 := rfl
    rw [this]; omega
  rw [e1]
  have e4 : ((k.log2 : Int) - 52 - -1074).toNat = 1022 + k.log2 := by omega
  have hc : Toward.even.cut s ((k * 2 ^ p) <<< (-(p : Int) - ((k.log2 : Int) - 52)).toNat) ((k.log2 : Int) - 52 - -(p : Int)).toNat = k * 2 ^ (52 - k.log2) := by
    by_cases hp : p ≤ 52 - k.log2
    · rw [show ((k.log2 : Int) - 52 - -(p : Int)).toNat = 0 by omega, cut_zero, show (-(p : Int) - ((k.log2 : Int) - 52)).toNat = 52 - k.log2 - p by omega, Nat.shiftLeft_eq, Nat.mul_assoc, ← Nat.pow_add]
      congr 2; omega
    · rw [show (-(p : Int) - ((k.log2 : Int) - 52)).toNat = 0 by omega, Nat.shiftLeft_zero, show ((k.log2 : Int) - 52 - -(p : Int)).toNat = p - (52 - k.log2) by omega]
      have e5 : k * 2 ^ p = (k * 2 ^ (52 - k.log2)) * 2 ^ (p - (52 - k.log2)) := by
        rw [Nat.mul_assoc, ← Nat.pow_add]; congr 2; omega
      rw [e5]
      refine cut_exact s _ _ ?_
      rw [← e5, log2_mul_pow h0]; omega
  rw [hc, e4]
  have h5 : k * 2 ^ (52 - k.log2) < 2 ^ 53 := by
    have := Nat.lt_log2_self (n := k)
    calc k * 2 ^ (52 - k.log2) < 2 ^ (k.log2 + 1) * 2 ^ (52 - k.log2) := Nat.mul_lt_mul_of_pos_right this (Nat.two_pow_pos _)
      _ = 2 ^ 53 := by rw [← Nat.pow_add]; congr 1; omega
  have h6 : (1022 + k.log2) * 2 ^ 52 + k * 2 ^ (52 - k.log2) ≤ 2047 * 2 ^ 52 := by
    generalize k * 2 ^ (52 - k.log2) = y at h5 ⊢
    omega
  rw [Nat.min_eq_left h6]
theorem fw_zero (s : Bool) : fw s 0 = double.word s 0 := by unfold fw Format.nearest; rw [if_pos rfl]
theorem read_any (s : Bool) {k : Nat} (h : k < 2 ^ 53) : ∃ a : Nat, double.read (fw s k) = .number s (k * 2 ^ a) (-(a : Int)) := by
  by_cases h0 : k = 0
  · subst h0
    have hz : ∀ a : Nat, (a : Int) = 1074 → double.read (fw s 0) = .number s (0 * 2 ^ a) (-(a : Int)) := fun a ha => by
      rw [fw_zero, Nat.zero_mul, ha]
      cases s <;> decide
    obtain ⟨a, ha⟩ : ∃ a : Nat, (a : Int) = 1074 := ⟨1074, rfl⟩
    exact ⟨a, hz a ha⟩
  · have hl : k.log2 ≤ 52 := by
      have := (Nat.log2_lt h0).2 h
      omega
    refine ⟨52 - k.log2, ?_⟩
    rw [read_fw s (by omega) h]
    congr 1
    omega
theorem write_any (s : Bool) {k : Nat} (h : k < 2 ^ 53) (p : Nat) : double.nearest s (k * 2 ^ p) (-(p : Int)) = fw s k := by
  by_cases h0 : k = 0
  · subst h0
    rw [fw_zero]
    unfold Format.nearest
    rw [if_pos (by simp)]
  · exact write_exact s (by omega) h p
/-- The number of a sign and a size. -/
def sv (s : Bool) (k : Nat) : Int := if s then -(k : Int) else k
theorem signed_sv (s : Bool) (k a b : Nat) : signed s (k * 2 ^ a) b = sv s k * (2 ^ (a + b) : Nat) := by
  unfold signed sv
  rw [Nat.shiftLeft_eq, Nat.mul_assoc, ← Nat.pow_add]
  cases s
  · simp only [Bool.false_eq_true, if_false]; rw [Int.natCast_mul]
  · simp only [if_true]; rw [Int.natCast_mul, Int.neg_mul]
theorem mul_fw (s t : Bool) {k l : Nat} (hk : k < 2 ^ 53) (hl : l < 2 ^ 53) (h : k * l < 2 ^ 53) : double.mul (fw s k) (fw t l) = some (fw (s ^^ t) (k * l)) := by
  obtain ⟨a, ha⟩ := read_any s hk
  obtain ⟨b, hb⟩ := read_any t hl
  unfold Format.mul
  rw [ha, hb]
  simp only [Datum.product, Option.map_some, Format.write]
  have e1 : k * 2 ^ a * (l * 2 ^ b) = (k * l) * 2 ^ (a + b) := by
    rw [Nat.pow_add]; ac_rfl
  have e2 : (-(a : Int) + -(b : Int)) = -((a + b : Nat) : Int) := by omega
  rw [e1, e2, write_any _ h]
/-- The sign of a sum. -/
def su (s t : Bool) (z : Int) : Bool := if z = 0 then s && t else decide (z < 0)
theorem add_fw (s t : Bool) {k l : Nat} (hk : k < 2 ^ 53) (hl : l < 2 ^ 53) (h : (sv s k + sv t l).natAbs < 2 ^ 53) : double.add (fw s k) (fw t l) = some (fw (su s t (sv s k + sv t l)) (sv s k + sv t l).natAbs) := by
  obtain ⟨a, ha⟩ := read_any s hk
  obtain ⟨b, hb⟩ := read_any t hl
  unfold Format.add
  rw [ha, hb]
  simp only [Datum.sum, Option.map_some, Format.write]
  have e1 : min (-(a : Int)) (-(b : Int)) = -((max a b : Nat) : Int) := by omega
  rw [e1]
  have e2 : (-(a : Int) - -((max a b : Nat) : Int)).toNat = max a b - a := by omega
  have e3 : (-(b : Int) - -((max a b : Nat) : Int)).toNat = max a b - b := by omega
  rw [e2, e3, signed_sv, signed_sv, show a + (max a b - a) = max a b by omega, show b + (max a b - b) = max a b by omega, ← Int.add_mul]
  generalize sv s k + sv t l = z at h ⊢
  generalize max a b = p
  have hp : (0 : Int) < ((2 ^ p : Nat) : Int) := by exact_mod_cast Nat.two_pow_pos p
  have e4 : (z * ((2 ^ p : Nat) : Int)).natAbs = z.natAbs * 2 ^ p := by rw [Int.natAbs_mul]; rfl
  have e5 : (if z * ((2 ^ p : Nat) : Int) = 0 then s && t else decide (z * ((2 ^ p : Nat) : Int) < 0)) = su s t z := by
    unfold su
    by_cases hz : z = 0
    · rw [if_pos hz, if_pos (by rw [hz]; simp)]
    · rw [if_neg hz, if_neg (Int.mul_ne_zero hz (by omega))]
      congr 1
      apply propext
      constructor
      · intro hh
        exact Int.not_le.1 fun hn => Int.not_lt.2 (Int.mul_nonneg hn (Int.le_of_lt hp)) hh
      · intro hh
        exact Int.mul_neg_of_neg_of_pos hh hp
  rw [e4, e5, write_any _ h]
theorem sub_fw (s t : Bool) {k l : Nat} (hk : k < 2 ^ 53) (hl : l < 2 ^ 53) (h : (sv s k + sv (!t) l).natAbs < 2 ^ 53) : double.sub (fw s k) (fw t l) = some (fw (su s (!t) (sv s k + sv (!t) l)) (sv s k + sv (!t) l).natAbs) := by
  have e : ∀ {l : Nat}, l < 2 ^ 53 → double.read (fw (!t) l) = (double.read (fw t l)).opposite := fun {l} hl => by
    by_cases h0 : l = 0
    · subst h0
      rw [fw_zero, fw_zero]
      cases t <;> decide
    · rw [read_fw _ (by omega) hl, read_fw _ (by omega) hl]
      rfl
  rw [← add_fw s (!t) hk hl h]
  unfold Format.sub Format.add
  rw [e hl]
theorem sv_not (t : Bool) (l : Nat) : sv (!t) l = - sv t l := by
  unfold sv; cases t <;> simp
theorem cut_int (neg : Bool) (n d : Nat) : Toward.zero.cut neg (n * 2 ^ d) d = n := by
  unfold Toward.cut
  simp only [Nat.shiftLeft_eq, Nat.one_mul, Bool.toNat_false, Nat.add_zero]
  by_cases h0 : n = 0
  · subst h0; simp
  · rw [Nat.min_eq_left (by rw [log2_mul_pow (by omega)]; omega), Nat.mul_div_cancel _ (Nat.two_pow_pos d)]
theorem toInt_fw (s : Bool) {k : Nat} (hk : k < 2 ^ 53) : (double.read (fw s k)).toInt .zero = some (sv s k) := by
  obtain ⟨a, ha⟩ := read_any s hk
  rw [ha]
  unfold Datum.toInt Datum.integral
  have e1 : (-(a : Int)).toNat = 0 := by omega
  have e2 : (- -(a : Int)).toNat = a := by omega
  simp only [e1, e2, Nat.shiftLeft_zero, cut_int]
  unfold signed sv
  simp
theorem order_fw (s t : Bool) {k l : Nat} (hk : k < 2 ^ 53) (hl : l < 2 ^ 53) : double.order (fw s k) (fw t l) = some (compare (sv s k) (sv t l)) := by
  obtain ⟨a, ha⟩ := read_any s hk
  obtain ⟨b, hb⟩ := read_any t hl
  unfold Format.order
  rw [ha, hb]
  simp only [Datum.order]
  have e1 : min (-(a : Int)) (-(b : Int)) = -((max a b : Nat) : Int) := by omega
  rw [e1]
  have e2 : (-(a : Int) - -((max a b : Nat) : Int)).toNat = max a b - a := by omega
  have e3 : (-(b : Int) - -((max a b : Nat) : Int)).toNat = max a b - b := by omega
  rw [e2, e3, signed_sv, signed_sv, show a + (max a b - a) = max a b by omega, show b + (max a b - b) = max a b by omega]
  generalize sv s k = x
  generalize sv t l = y
  generalize max a b = p
  have hp : (0 : Int) < ((2 ^ p : Nat) : Int) := by exact_mod_cast Nat.two_pow_pos p
  congr 1
  rcases Int.lt_trichotomy x y with h | h | h
  · have h2 := Int.mul_lt_mul_of_pos_right h hp
    rw [Int.compare_eq_lt.2 h, Int.compare_eq_lt.2 h2]
  · subst h; simp
  · have h2 := Int.mul_lt_mul_of_pos_right h hp
    rw [Int.compare_eq_gt.2 h, Int.compare_eq_gt.2 h2]
end Go.Ab

/- Whole numbers in float64: the model's operations. No condition. -/
set_option linter.unusedVariables false
namespace Go.Ab
open Go Ieee

theorem ofInt_fw (n : Int) : floatOfInt .f64 n = fw (decide (n < 0)) n.natAbs := rfl
theorem sv_ofInt (n : Int) : sv (decide (n < 0)) n.natAbs = n := by
  unfold sv
  by_cases h : n < 0
  · simp [h]; omega
  · simp [h]; omega
theorem fAdd (s t : Bool) {k l : Nat} (hk : k < 2 ^ 53) (hl : l < 2 ^ 53) (h : (sv s k + sv t l).natAbs < 2 ^ 53) : floatBits .add .f64 (fw s k) (fw t l) = some (fw (su s t (sv s k + sv t l)) (sv s k + sv t l).natAbs) := add_fw s t hk hl h
theorem fSub (s t : Bool) {k l : Nat} (hk : k < 2 ^ 53) (hl : l < 2 ^ 53) (h : (sv s k + sv (!t) l).natAbs < 2 ^ 53) : floatBits .sub .f64 (fw s k) (fw t l) = some (fw (su s (!t) (sv s k + sv (!t) l)) (sv s k + sv (!t) l).natAbs) := sub_fw s t hk hl h
theorem fMul (s t : Bool) {k l : Nat} (hk : k < 2 ^ 53) (hl : l < 2 ^ 53) (h : k * l < 2 ^ 53) : floatBits .mul .f64 (fw s k) (fw t l) = some (fw (s ^^ t) (k * l)) := mul_fw s t hk hl h
theorem fInt (s : Bool) {k : Nat} (hk : k < 2 ^ 53) : floatToIntVal .f64 (fw s k) .i64 = some (sv s k) := by
  unfold floatToIntVal
  have h1 : (FloatKind.f64.decode (fw s k)).toInt .zero = some (sv s k) := toInt_fw s hk
  rw [h1]
  have h2 : IntKind.min .i64 ≤ sv s k ∧ sv s k ≤ IntKind.max .i64 := by
    have e1 : IntKind.min .i64 = -9223372036854775808 := by decide
    have e2 : IntKind.max .i64 = 9223372036854775807 := by decide
    rw [e1, e2]
    unfold sv
    cases s
    · simp; omega
    · simp; omega
  exact if_pos h2
theorem fw_lt (s : Bool) {k : Nat} (hk : k < 2 ^ 53) : fw false k < 2 ^ 63 ∧ fw s k = (if s = true then 2 ^ 63 + fw false k else fw false k) := by
  by_cases h0 : k = 0
  · subst h0
    rw [fw_zero, fw_zero]
    cases s <;> decide
  · have hl : k.log2 ≤ 52 := by
      have := (Nat.log2_lt h0).2 hk
      omega
    have h5 : k * 2 ^ (52 - k.log2) < 2 ^ 53 := by
      have := Nat.lt_log2_self (n := k)
      calc k * 2 ^ (52 - k.log2) < 2 ^ (k.log2 + 1) * 2 ^ (52 - k.log2) := Nat.mul_lt_mul_of_pos_right this (Nat.two_pow_pos _)
        _ = 2 ^ 53 := by rw [← Nat.pow_add]; congr 1; omega
    rw [fw_pos false (by omega) hk, fw_pos s (by omega) hk]
    unfold Format.word
    simp only [sigw]
    generalize k * 2 ^ (52 - k.log2) = y at h5 ⊢
    generalize k.log2 = g at hl ⊢
    refine ⟨?_, by simp⟩
    simp only [Bool.false_eq_true, if_false]
    omega
theorem xor_top (x : Nat) (h : x < 2 ^ 63) : x ^^^ 2 ^ 63 = 2 ^ 63 + x ∧ (2 ^ 63 + x) ^^^ 2 ^ 63 = x := by
  have h1 : x ^^^ 2 ^ 63 = 2 ^ 63 + x := by
    have := Nat.two_pow_add_eq_or_of_lt h 1
    rw [Nat.mul_one] at this
    rw [this, Nat.xor_comm]
    apply Nat.eq_of_testBit_eq
    intro i
    simp only [Nat.testBit_xor, Nat.testBit_or, Nat.testBit_two_pow]
    by_cases hi : 63 = i
    · subst hi
      rw [Nat.testBit_lt_two_pow h]; simp
    · simp [hi]
  refine ⟨h1, ?_⟩
  rw [← h1, Nat.xor_assoc, Nat.xor_self, Nat.xor_zero]
theorem fNeg (s : Bool) {k : Nat} (hk : k < 2 ^ 53) : Op.negFloat .f64 (fw s k) = fw (!s) k := by
  have h1 := fw_lt s hk
  have h2 := fw_lt (!s) hk
  unfold Op.negFloat
  have e : FloatKind.f64.format.exponentBits + FloatKind.f64.format.fractionBits = 63 := rfl
  rw [e, h1.2, h2.2]
  have x1 := xor_top _ h1.1
  cases s
  · simp only [Bool.false_eq_true, if_false, Bool.not_false, if_true]; exact x1.1
  · simp only [if_true, Bool.not_true, Bool.false_eq_true, if_false]; exact x1.2
end Go.Ab

/- Floats that are whole numbers. No condition. -/
set_option linter.unusedVariables false
namespace Go.Ab
open Go Ieee

def IsF (x : Nat) (n : Int) : Prop := ∃ s k, x = fw s k ∧ sv s k = n ∧ k < 2 ^ 53
theorem sv_abs {s : Bool} {k : Nat} {n : Int} (h : sv s k = n) : k = n.natAbs := by
  unfold sv at h; cases s <;> simp at h <;> omega
theorem sv_su (s t : Bool) (v : Int) : sv (su s t v) v.natAbs = v := by
  unfold su sv
  by_cases h : v = 0
  · subst h; simp
  · simp only [h, if_false]
    by_cases h2 : v < 0 <;> simp [h2] <;> omega
theorem isF_ofInt {n : Int} (h : n.natAbs < 2 ^ 53) : IsF (floatOfInt .f64 n) n := ⟨decide (n < 0), n.natAbs, ofInt_fw n, sv_ofInt n, h⟩
theorem isF_zero : IsF 0 0 := ⟨false, 0, by rw [fw_zero]; decide, rfl, by decide⟩
theorem isF_one : IsF 4607182418800017408 1 := by
  have h := isF_ofInt (n := 1) (by decide)
  have e : floatOfInt .f64 1 = 4607182418800017408 := by decide +kernel
  rwa [e] at h
theorem isF_add {x y : Nat} {m n : Int} (hx : IsF x m) (hy : IsF y n) (h : (m + n).natAbs < 2 ^ 53) : ∃ z, floatBits .add .f64 x y = some z ∧ IsF z (m + n) := by
  obtain ⟨s, k, rfl, rfl, hk⟩ := hx
  obtain ⟨t, l, rfl, rfl, hl⟩ := hy
  exact ⟨_, fAdd s t hk hl h, _, _, rfl, sv_su _ _ _, h⟩
theorem isF_sub {x y : Nat} {m n : Int} (hx : IsF x m) (hy : IsF y n) (h : (m - n).natAbs < 2 ^ 53) : ∃ z, floatBits .sub .f64 x y = some z ∧ IsF z (m - n) := by
  obtain ⟨s, k, rfl, rfl, hk⟩ := hx
  obtain ⟨t, l, rfl, rfl, hl⟩ := hy
  have e : sv s k + sv (!t) l = sv s k - sv t l := by rw [sv_not]; omega
  exact ⟨_, fSub s t hk hl (by rw [e]; exact h), _, _, rfl, by rw [sv_su, e], by rw [e]; exact h⟩
theorem isF_mul {x y : Nat} {m n : Int} (hx : IsF x m) (hy : IsF y n) (h : (m * n).natAbs < 2 ^ 53) : ∃ z, floatBits .mul .f64 x y = some z ∧ IsF z (m * n) := by
  obtain ⟨s, k, rfl, rfl, hk⟩ := hx
  obtain ⟨t, l, rfl, rfl, hl⟩ := hy
  have hkl : k * l < 2 ^ 53 := by
    rw [Int.natAbs_mul] at h
    rw [sv_abs (s := s) (k := k) rfl, sv_abs (s := t) (k := l) rfl]; exact h
  refine ⟨_, fMul s t hk hl hkl, _, _, rfl, ?_, hkl⟩
  unfold sv
  cases s <;> cases t <;> simp [Int.neg_mul, Int.mul_neg]
theorem isF_neg {x : Nat} {m : Int} (hx : IsF x m) : IsF (Op.negFloat .f64 x) (-m) := by
  obtain ⟨s, k, rfl, rfl, hk⟩ := hx
  exact ⟨!s, k, fNeg s hk, sv_not s k, hk⟩
theorem isF_int {x : Nat} {m : Int} (hx : IsF x m) : floatToIntVal .f64 x .i64 = some m := by
  obtain ⟨s, k, rfl, rfl, hk⟩ := hx
  exact fInt s hk
theorem isF_order {x y : Nat} {m n : Int} (hx : IsF x m) (hy : IsF y n) : FloatKind.f64.format.order x y = some (compare m n) := by
  obtain ⟨s, k, rfl, rfl, hk⟩ := hx
  obtain ⟨t, l, rfl, rfl, hl⟩ := hy
  exact order_fw s t hk hl
theorem isF_max {x y : Nat} {m n : Int} (hx : IsF x m) (hy : IsF y n) : ∃ z, fltMax .f64 x y = some z ∧ IsF z (max m n) := by
  unfold fltMax
  rw [isF_order hx hy]
  rcases Int.lt_trichotomy m n with h | h | h
  · have e : compare m n = .lt := by rw [Int.compare_eq_lt]; exact h
    rw [e]
    exact ⟨y, rfl, by rw [show max m n = n by omega]; exact hy⟩
  · subst h
    have e : compare m m = .eq := by rw [Int.compare_eq_eq]
    rw [e]
    refine ⟨_, rfl, ?_⟩
    rw [show max m m = m by omega]
    split
    · exact hy
    · exact hx
  · have e : compare m n = .gt := by rw [Int.compare_eq_gt]; exact h
    rw [e]
    exact ⟨x, rfl, by rw [show max m n = m by omega]; exact hx⟩
theorem isF_csum {a b c d : Nat} {i j k l : Int} (ha : IsF a i) (hb : IsF b j) (hc : IsF c k) (hd : IsF d l) (h1 : (i + k).natAbs < 2 ^ 53) (h2 : (j + l).natAbs < 2 ^ 53) : ∃ x y, cSumBits .add .f64 a b c d = some (x, y) ∧ IsF x (i + k) ∧ IsF y (j + l) := by
  obtain ⟨x, hx, hx2⟩ := isF_add ha hc h1
  obtain ⟨y, hy, hy2⟩ := isF_add hb hd h2
  exact ⟨x, y, by unfold cSumBits; rw [hx, hy]; rfl, hx2, hy2⟩
theorem isF_csub {a b c d : Nat} {i j k l : Int} (ha : IsF a i) (hb : IsF b j) (hc : IsF c k) (hd : IsF d l) (h1 : (i - k).natAbs < 2 ^ 53) (h2 : (j - l).natAbs < 2 ^ 53) : ∃ x y, cSumBits .sub .f64 a b c d = some (x, y) ∧ IsF x (i - k) ∧ IsF y (j - l) := by
  obtain ⟨x, hx, hx2⟩ := isF_sub ha hc h1
  obtain ⟨y, hy, hy2⟩ := isF_sub hb hd h2
  exact ⟨x, y, by unfold cSumBits; rw [hx, hy]; rfl, hx2, hy2⟩
theorem isF_cmul {a b c d : Nat} {i j k l : Int} (ha : IsF a i) (hb : IsF b j) (hc : IsF c k) (hd : IsF d l) (h1 : (i * k).natAbs < 2 ^ 52) (h2 : (j * l).natAbs < 2 ^ 52) (h3 : (i * l).natAbs < 2 ^ 52) (h4 : (j * k).natAbs < 2 ^ 52) : ∃ x y, cMulBits a b c d = some (x, y) ∧ IsF x (i * k - j * l) ∧ IsF y (i * l + j * k) := by
  obtain ⟨p, hp, hp2⟩ := isF_mul ha hc (by omega)
  obtain ⟨q, hq, hq2⟩ := isF_mul hb hd (by omega)
  obtain ⟨r, hr, hr2⟩ := isF_mul ha hd (by omega)
  obtain ⟨s, hs, hs2⟩ := isF_mul hb hc (by omega)
  obtain ⟨x, hx, hx2⟩ := isF_sub hp2 hq2 (by omega)
  obtain ⟨y, hy, hy2⟩ := isF_add hr2 hs2 (by omega)
  refine ⟨x, y, ?_, hx2, hy2⟩
  unfold cMulBits
  rw [hp, hq, hr, hs]
  simp only [Option.bind_some]
  rw [hx, hy]; rfl
end Go.Ab

/- Points: what the program's functions hand back, for parts that are not great. No condition. -/
set_option linter.unusedVariables false
set_option linter.unusedSimpArgs false
set_option maxRecDepth 100000
namespace Go.Proofs.YthemimhlhjfdaaaDoor.Ab
open Go Go.Ab Go.Qu Go.Proofs
attribute [local simp] and_assoc
abbrev iP (a b : Int) : IV := .d (.agg [.int .i64 a, .int .i64 b])
abbrev iZ (x y : Nat) : IV := .d (.cpx .f64 x y)
/-- Not too far away. -/
def near (n : Int) : Bool := decide (-1000000 ≤ n) && decide (n ≤ 1000000)
def nearP (a b : Int) : Bool := near a && near b
theorem near_iff {n : Int} : near n = true ↔ -1000000 ≤ n ∧ n ≤ 1000000 := by simp [near]
@[simp] theorem w_near (n : Int) : C 32 [iI n] = some (iB (near n), [iI n]) := by
  refine wfn (lk := []) rfl rfl (fnW_way (q32 _ _ n _) ?_)
  by_cases h1 : -1000000 ≤ n <;> by_cases h2 : n ≤ 1000000 <;> simp [h1, h2, near]
@[simp] theorem w_pmay (a b : Int) : C 19 [iP a b] = some (iB (nearP a b), [iP a b]) := by
  refine wfn (lk := []) rfl rfl (fnW_way (q19 _ _ a b _) ?_)
  cases h1 : near a <;> cases h2 : near b <;> simp [nearP, h1, h2]
theorem w_of (a b : Int) : C 29 [iP a b] = some (iZ (floatOfInt .f64 a) (floatOfInt .f64 b), [iP a b]) :=
  wfn (lk := []) rfl rfl (fnW_way (q29 _ _ a b _) (by simp))
theorem w_turned (x y : Nat) : C 31 [iZ x y] = some (iZ x (Op.negFloat .f64 y), [iZ x y]) :=
  wfn (lk := []) rfl rfl (fnW_way (q31 _ _ x y _) (by simp))
theorem w_back {x y : Nat} {m n : Int} (hx : IsF x m) (hy : IsF y n) : C 38 [iZ x y] = some (iP m n, [iZ x y]) := by
  refine wfn (lk := []) rfl rfl (fnW_way (q38 _ _ x y _) ?_)
  simp [isF_int hx, isF_int hy]
/-- What is told of two points and what comes of them. -/
def toldE (a b c d m n : Int) : Int := if (nearP a b && nearP c d) = true then (if nearP m n = true then 0 else 901) else 900
def toldV (a b c d m n x : Int) : Int := if ((nearP a b && nearP c d) && nearP m n) = true then x else 0
theorem w_told (a b c d : Int) {x y : Nat} {m n : Int} (hx : IsF x m) (hy : IsF y n) : C 28 [iP a b, iP c d, iZ x y] = some (.tup [iP (toldV a b c d m n m) (toldV a b c d m n n), iI (toldE a b c d m n)], [iP a b, iP c d, iZ x y]) := by
  refine wfn (lk := []) rfl rfl (fnW_way (q28 _ _ a b c d x y _) ?_)
  have hb := w_back hx hy
  cases h1 : nearP a b <;> cases h2 : nearP c d <;> cases h3 : nearP m n <;> simp [hb, h1, h2, h3, toldV, toldE]
theorem near_53 {a : Int} (h : near a = true) : a.natAbs < 2 ^ 53 := by rw [near_iff] at h; omega
theorem mul_52 {a b : Int} (ha : near a = true) (hb : near b = true) : (a * b).natAbs < 2 ^ 52 := by
  rw [near_iff] at ha hb
  rw [Int.natAbs_mul]
  calc a.natAbs * b.natAbs ≤ 1000000 * 1000000 := Nat.mul_le_mul (by omega) (by omega)
    _ < 2 ^ 52 := by decide
theorem nearP_iff {a b : Int} : nearP a b = true ↔ near a = true ∧ near b = true := by simp [nearP]
theorem w_add {a b c d : Int} (hp : nearP a b = true) (hq : nearP c d = true) : C 9 [iP a b, iP c d] = some (.tup [iP (toldV a b c d (a + c) (b + d) (a + c)) (toldV a b c d (a + c) (b + d) (b + d)), iI (toldE a b c d (a + c) (b + d))], [iP a b, iP c d]) := by
  refine wfn (lk := []) rfl rfl (fnW_way (q9 _ _ a b c d _) ?_)
  rw [nearP_iff] at hp hq
  have n1 := near_iff.1 hp.1; have n2 := near_iff.1 hp.2; have n3 := near_iff.1 hq.1; have n4 := near_iff.1 hq.2
  obtain ⟨x, y, h1, h2, h3⟩ := isF_csum (isF_ofInt (near_53 hp.1)) (isF_ofInt (near_53 hp.2)) (isF_ofInt (near_53 hq.1)) (isF_ofInt (near_53 hq.2)) (by omega) (by omega)
  simp [w_of, h1, w_told a b c d h2 h3]
theorem w_mul {a b c d : Int} (hp : nearP a b = true) (hq : nearP c d = true) : C 11 [iP a b, iP c d] = some (.tup [iP (toldV a b c d (a * c - b * d) (a * d + b * c) (a * c - b * d)) (toldV a b c d (a * c - b * d) (a * d + b * c) (a * d + b * c)), iI (toldE a b c d (a * c - b * d) (a * d + b * c))], [iP a b, iP c d]) := by
  refine wfn (lk := []) rfl rfl (fnW_way (q11 _ _ a b c d _) ?_)
  rw [nearP_iff] at hp hq
  obtain ⟨x, y, h1, h2, h3⟩ := isF_cmul (isF_ofInt (near_53 hp.1)) (isF_ofInt (near_53 hp.2)) (isF_ofInt (near_53 hq.1)) (isF_ofInt (near_53 hq.2)) (mul_52 hp.1 hq.1) (mul_52 hp.2 hq.2) (mul_52 hp.1 hq.2) (mul_52 hp.2 hq.1)
  simp [w_of, h1, w_told a b c d h2 h3]
theorem w_flip {a b : Int} (hp : nearP a b = true) : C 13 [iP a b] = some (.tup [iP b a, iI 0], [iP a b]) := by
  refine wfn (lk := []) rfl rfl (fnW_way (q13 _ _ a b _) ?_)
  have hp' := hp
  rw [nearP_iff] at hp
  have n1 := near_iff.1 hp.1; have n2 := near_iff.1 hp.2
  obtain ⟨x, y, h1, h2, h3⟩ := isF_cmul isF_zero isF_one (isF_ofInt (near_53 hp.1)) (isF_neg (isF_ofInt (near_53 hp.2))) (by omega) (by omega) (by omega) (by omega)
  have e1 : (0 : Int) * a - 1 * -b = b := by omega
  have e2 : (0 : Int) * -b + 1 * a = a := by omega
  rw [e1] at h2; rw [e2] at h3
  have hb : nearP b a = true := by rw [nearP_iff]; exact ⟨hp.2, hp.1⟩
  have ht := w_told a b a b h2 h3
  simp only [toldV, toldE, hp', hb, Bool.and_self, if_true] at ht
  simp [w_of, w_turned, h1, ht]
theorem w_under {a b c d : Int} (hp : nearP a b = true) (hq : nearP c d = true) : C 15 [iP a b, iP c d] = some (.tup [iB (decide (a ≤ c) && decide (b ≤ d)), iI 0], [iP a b, iP c d]) := by
  refine wfn (lk := []) rfl rfl (fnW_way (q15 _ _ a b c d _) ?_)
  have hp' := hp; have hq' := hq
  rw [nearP_iff] at hp hq
  have n1 := near_iff.1 hp.1; have n2 := near_iff.1 hp.2; have n3 := near_iff.1 hq.1; have n4 := near_iff.1 hq.2
  obtain ⟨x, y, h1, h2, h3⟩ := isF_csub (isF_ofInt (near_53 hq.1)) (isF_ofInt (near_53 hq.2)) (isF_ofInt (near_53 hp.1)) (isF_ofInt (near_53 hp.2)) (by omega) (by omega)
  have o1 := isF_order h2 isF_zero
  have o2 := isF_order h3 isF_zero
  have k : ∀ m n : Int, ((some (compare (m - n) 0) == some Ordering.gt) || (some (compare (m - n) 0) == some Ordering.eq)) = decide (n ≤ m) := fun m n => by
    rcases Int.lt_trichotomy (m - n) 0 with h | h | h
    · rw [(Int.compare_eq_lt).2 h]; simp; omega
    · rw [(Int.compare_eq_eq).2 h]; simp; omega
    · rw [(Int.compare_eq_gt).2 h]; simp; omega
  simp only [w_pmay, hp', hq', condW_tt, w_of, h1, Option.isSome_some, Option.getD_some, o1, o2, k, Option.some.injEq, Prod.mk.injEq, IV.d.injEq, D.bool.injEq, D.cpx.injEq, List.cons.injEq, and_true]
  refine ⟨true, _, ⟨rfl, rfl⟩, true, _, ⟨rfl, rfl⟩, _, _, _, ⟨⟨trivial, rfl, rfl⟩, rfl⟩, _, _, _, ⟨⟨trivial, rfl, rfl⟩, rfl⟩, ?_⟩
  simp only [h1, Option.isSome_some, Option.getD_some, o1, o2, k, condW_tt]
  by_cases c1 : a ≤ c <;> by_cases c2 : b ≤ d <;> simp [c1, c2]
theorem w_score {a b c d : Int} (hp : nearP a b = true) (hq : nearP c d = true) : C 17 [iP a b, iP c d] = some (.tup [iI (a * c + b * d), iI 0], [iP a b, iP c d]) := by
  refine wfn (lk := []) rfl rfl (fnW_way (q17 _ _ a b c d _) ?_)
  have hp' := hp; have hq' := hq
  rw [nearP_iff] at hp hq
  obtain ⟨x, y, h1, h2, h3⟩ := isF_cmul (isF_ofInt (near_53 hp.1)) (isF_ofInt (near_53 hp.2)) (isF_ofInt (near_53 hq.1)) (isF_neg (isF_ofInt (near_53 hq.2))) (mul_52 hp.1 hq.1) (by rw [Int.mul_neg, Int.natAbs_neg]; exact mul_52 hp.2 hq.2) (by rw [Int.mul_neg, Int.natAbs_neg]; exact mul_52 hp.1 hq.2) (mul_52 hp.2 hq.1)
  have e1 : a * c - b * -d = a * c + b * d := by rw [Int.mul_neg]; omega
  rw [e1] at h2
  simp [hp', hq', w_of, w_turned, h1, isF_int h2]
end Go.Proofs.YthemimhlhjfdaaaDoor.Ab

/- Where a table's functions mark Insert. No condition. -/
namespace Go.Ab
open Go
theorem insOf_mem : ∀ {cv : List (Nat × Cv)} {g : FuncId} {e : TypeId}, insOf cv g = some e → (1000000 + g, Cv.own e) ∈ cv
  | [], g, e, h => by simp [insOf] at h
  | (i, c) :: r, g, e, h => by
    cases c with
    | own t =>
      simp only [insOf] at h
      split at h
      · rename_i hi; cases h; rw [hi]; exact List.mem_cons_self ..
      · exact List.mem_cons_of_mem _ (insOf_mem h)
    | _ => simp only [insOf] at h; exact List.mem_cons_of_mem _ (insOf_mem h)
theorem codeOf_mem : ∀ {l : List (FuncId × FnD)} {f : FuncId} {fn : FnD}, codeOf l f = some fn → ∃ p ∈ l, p.2 = fn
  | [], f, fn, h => by simp [codeOf] at h
  | p :: l, f, fn, h => by
    unfold codeOf at h
    split at h
    · cases h; exact ⟨p, List.mem_cons_self .., rfl⟩
    · obtain ⟨q, h1, h2⟩ := codeOf_mem h
      exact ⟨q, List.mem_cons_of_mem _ h1, h2⟩
def insChk (l : List (FuncId × FnD)) (G : FuncId) (T : TypeId) : Bool :=
  l.all fun p => p.2.cv.all fun c => match c.2 with | .own t => decide (c.1 < 1000000) || (decide (c.1 = 1000000 + G) && decide (t = T)) | _ => true
theorem insChk_ok {l : List (FuncId × FnD)} {G : FuncId} {T : TypeId} (h : insChk l G T = true) {f : FuncId} {fn : FnD} (hf : codeOf l f = some fn) {g : FuncId} {e : TypeId} (hg : insOf fn.cv g = some e) : g = G ∧ e = T := by
  obtain ⟨p, hp, rfl⟩ := codeOf_mem hf
  have h1 := List.all_eq_true.1 (List.all_eq_true.1 h p hp) _ (insOf_mem hg)
  simp only [Bool.or_eq_true, Bool.and_eq_true, decide_eq_true_eq] at h1
  rcases h1 with h1 | ⟨h1, h2⟩
  · exact absurd h1 (Nat.not_lt.2 (Nat.le_add_right _ _))
  · exact ⟨Nat.add_left_cancel h1, h2⟩
end Go.Ab

/- No function of this seat's table marks slices.Insert. No condition. -/
set_option linter.unusedVariables false
set_option maxRecDepth 100000
namespace Go.Proofs.YthemimhlhjfdaaaDoor.Ab
open Go Go.Ab Go.Proofs
theorem insAll (f : FuncId) (fn : FnD) (hf : codeOf code f = some fn) (g : FuncId) (e : TypeId) (hg : insOf fn.cv g = some e) : InsOk Tryd.prog g e ∧ FnOk Tryd.prog g := by
  have h1 : (code.all fun p => p.2.cv.all fun c => match c.2 with | .own _ => decide (c.1 < 1000000) | _ => true) = true := by kernel_rfl
  obtain ⟨p, hp, rfl⟩ := codeOf_mem hf
  have h2 := List.all_eq_true.1 (List.all_eq_true.1 h1 p hp) _ (insOf_mem hg)
  exact absurd (of_decide_eq_true h2) (Nat.not_lt.2 (Nat.le_add_right _ _))
end Go.Proofs.YthemimhlhjfdaaaDoor.Ab
