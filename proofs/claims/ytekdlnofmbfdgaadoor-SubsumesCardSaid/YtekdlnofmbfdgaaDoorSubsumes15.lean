/- Whole numbers below 2^53 are exact in float64. No condition. -/
import Derived.Laws.ComplexArith
import Derived.Laws.FloatArith
import Ieee.Arith
import Derived.Test.YtekdlnofmbfdgaaDoorSubsumes0
import Derived.Test.YtekdlnofmbfdgaaDoorSubsumes1
import Derived.Test.YtekdlnofmbfdgaaDoorSubsumes2
import Derived.Test.YtekdlnofmbfdgaaDoorSubsumes3
import Derived.Test.YtekdlnofmbfdgaaDoorSubsumes4
import Derived.Test.YtekdlnofmbfdgaaDoorSubsumes5
import Derived.Test.YtekdlnofmbfdgaaDoorSubsumes6
import Derived.Test.YtekdlnofmbfdgaaDoorSubsumes7
import Derived.Test.YtekdlnofmbfdgaaDoorSubsumes8
import Derived.Test.YtekdlnofmbfdgaaDoorSubsumes9
import Derived.Test.YtekdlnofmbfdgaaDoorSubsumes10
import Derived.Test.YtekdlnofmbfdgaaDoorSubsumes11
import Derived.Test.YtekdlnofmbfdgaaDoorSubsumes12
import Derived.Test.YtekdlnofmbfdgaaDoorSubsumes13
import Derived.Test.YtekdlnofmbfdgaaDoorSubsumes14
set_option maxRecDepth 4000
set_option linter.unusedVariables false
namespace Go.Ab
open Ieee

/-- The word of a whole number with a sign. -/
def fw (s : Bool) (k : Nat) : Nat := double.nearest s k 0
theorem least : double.leastPlace = -1074 := by decide
theorem bin : double.binade = 2 ^ 52 := by decide
theorem sigw : double.signWeight = 2 ^ 63 := by decide
theorem infr : double.infRung = 2047 * 2 ^ 52 := by decide
/-- Cut without a rest. -/
theorem cut_zero (neg : Bool) (n : Nat) : Toward.even.cut neg n 0 = n := by
  unfold Toward.cut
  simp [Nat.mod_one]
theorem fw_pos (s : Bool) {k : Nat} (h0 : 0 < k) (h : k < 2 ^ 53) : fw s k = double.word s ((1022 + k.log2) * 2 ^ 52 + k * 2 ^ (52 - k.log2)) := by
  have hl : k.log2 ≤ 52 := by
    have := (Nat.log2_lt (by omega)).2 h
    omega
  unfold fw Format.nearest
  rw [if_neg (by omega)]
  simp only [least, bin, infr]
  have h1 : max ((0 : Int) + k.log2 - (double.fractionBits : Nat)) (-1074) = (k.log2 : Int) - 52 := by
    have : (double.fractionBits : Int) = 52 := rfl
    rw [this]; omega
  rw [h1]
  have h2 : (0 - ((k.log2 : Int) - 52)).toNat = 52 - k.log2 := by omega
  have h3 : ((k.log2 : Int) - 52 - 0).toNat = 0 := by omega
  have h4 : ((k.log2 : Int) - 52 - -1074).toNat = 1022 + k.log2 := by omega
  rw [h2, h3, h4, cut_zero, Nat.shiftLeft_eq]
  have h5 : k * 2 ^ (52 - k.log2) < 2 ^ 53 := by
    have := Nat.lt_log2_self (n := k)
    calc k * 2 ^ (52 - k.log2) < 2 ^ (k.log2 + 1) * 2 ^ (52 - k.log2) := Nat.mul_lt_mul_of_pos_right this (Nat.two_pow_pos _)
      _ = 2 ^ 53 := by rw [← Nat.pow_add]; congr 1; omega
  have h6 : (1022 + k.log2) * 2 ^ 52 + k * 2 ^ (52 - k.log2) ≤ 2047 * 2 ^ 52 := by
    generalize k * 2 ^ (52 - k.log2) = y at h5 ⊢
    omega
  rw [Nat.min_eq_left h6]
/-- What stands in such a word. -/
theorem read_fw (s : Bool) {k : Nat} (h0 : 0 < k) (h : k < 2 ^ 53) : double.read (fw s k) = .number s (k * 2 ^ (52 - k.log2)) ((k.log2 : Int) - 52) := by
  have hl : k.log2 ≤ 52 := by
    have := (Nat.log2_lt (by omega)).2 h
    omega
  have h5 : k * 2 ^ (52 - k.log2) < 2 ^ 53 := by
    have := Nat.lt_log2_self (n := k)
    calc k * 2 ^ (52 - k.log2) < 2 ^ (k.log2 + 1) * 2 ^ (52 - k.log2) := Nat.mul_lt_mul_of_pos_right this (Nat.two_pow_pos _)
      _ = 2 ^ 53 := by rw [← Nat.pow_add]; congr 1; omega
  have h6 : 2 ^ 52 ≤ k * 2 ^ (52 - k.log2) := by
    have := Nat.log2_self_le (n := k) (by omega)
    calc 2 ^ 52 = 2 ^ k.log2 * 2 ^ (52 - k.log2) := by rw [← Nat.pow_add]; congr 1; omega
      _ ≤ k * 2 ^ (52 - k.log2) := Nat.mul_le_mul_right _ this
  rw [fw_pos s h0 h]
  unfold Format.read Format.word
  simp only [sigw, bin, infr, least]
  generalize k * 2 ^ (52 - k.log2) = y at h5 h6 ⊢
  generalize k.log2 = g at hl ⊢
  have e1 : (if s = true then 2 ^ 63 + ((1022 + g) * 2 ^ 52 + y) else (1022 + g) * 2 ^ 52 + y) % 2 ^ 63 = (1022 + g) * 2 ^ 52 + y := by
    split <;> omega
  have e2 : ((if s = true then 2 ^ 63 + ((1022 + g) * 2 ^ 52 + y) else (1022 + g) * 2 ^ 52 + y) / 2 ^ 63 % 2 == 1) = s := by
    cases s
    · simp only [Bool.false_eq_true, if_false, beq_eq_false_iff_ne]; omega
    · simp only [if_true, beq_iff_eq]; omega
  have e5 : ¬ ((1022 + g) * 2 ^ 52 + y < 2 ^ 52) := by omega
  have e6 : (1022 + g) * 2 ^ 52 + y < 2047 * 2 ^ 52 := by omega
  rw [e1, e2, if_neg e5, if_pos e6]
  have e3 : ((1022 + g) * 2 ^ 52 + y) % 2 ^ 52 = y - 2 ^ 52 := by omega
  have e4 : ((1022 + g) * 2 ^ 52 + y) / 2 ^ 52 = 1023 + g := by omega
  rw [e3, e4]
  have e7 : 2 ^ 52 + (y - 2 ^ 52) = y := by omega
  have e8 : (-1074 : Int) + ((1023 + g - 1 : Nat) : Int) = (g : Int) - 52 := by omega
  rw [e7, e8]
theorem log2_mul_pow {k : Nat} (h0 : 0 < k) (p : Nat) : (k * 2 ^ p).log2 = k.log2 + p := by
  have h1 : 0 < k * 2 ^ p := Nat.mul_pos h0 (Nat.two_pow_pos p)
  rw [Nat.log2_eq_iff (by omega)]
  have h2 := Nat.log2_self_le (n := k) (by omega)
  have h3 := Nat.lt_log2_self (n := k)
  constructor
  · rw [Nat.pow_add]; exact Nat.mul_le_mul_right _ h2
  · rw [show k.log2 + p + 1 = (k.log2 + 1) + p by omega, Nat.pow_add]
    exact Nat.mul_lt_mul_of_pos_right h3 (Nat.two_pow_pos p)
/-- Cut where nothing is left over. -/
theorem cut_exact (neg : Bool) (n d : Nat) (hd : d ≤ (n * 2 ^ d).log2 + 2) : Toward.even.cut neg (n * 2 ^ d) d = n := by
  unfold Toward.cut
  rw [Nat.min_eq_left hd]
  have hp := Nat.two_pow_pos d
  simp only [Nat.shiftLeft_eq, Nat.one_mul, Nat.mul_div_cancel _ hp, Nat.mul_mod_left, Nat.mul_zero]
  have h1 : (decide (2 ^ d < 0) || (2 ^ d == 0 && n % 2 == 1)) = false := by
    have h2 : (2 ^ d == 0) = false := by simp
    rw [h2]; simp
  rw [h1]; rfl
/-- A datum that is a whole number below 2^53 is written as that number is. -/
theorem write_exact (s : Bool) {k : Nat} (h0 : 0 < k) (h : k < 2 ^ 53) (p : Nat) : double.nearest s (k * 2 ^ p) (-(p : Int)) = fw s k := by
  have hl : k.log2 ≤ 52 := by
    have := (Nat.log2_lt (by omega)).2 h
    omega
  rw [fw_pos s h0 h]
  unfold Format.nearest
  have h1 : 0 < k * 2 ^ p := Nat.mul_pos h0 (Nat.two_pow_pos p)
  rw [if_neg (by omega)]
  simp only [least, bin, infr, log2_mul_pow h0]
  have e1 : max (-(p : Int) + ((k.log2 + p : Nat) : Int) - (double.fractionBits : Nat)) (-1074) = (k.log2 : Int) - 52 := by
    have : (double.fractionBits : Int) = 52 := rfl
    rw [this]; omega
  rw [e1]
  have e4 : ((k.log2 : Int) - 52 - -1074).toNat = 1022 + k.log2 := by omega
  have hc : Toward.even.cut s ((k * 2 ^ p) <<< (-(p : Int) - ((k.log2 : Int) - 52)).toNat) ((k.log2 : Int) - 52 - -(p : Int)).toNat = k * 2 ^ (52 - k.log2) := by
    by_cases hp : p ≤ 52 - k.log2
    · rw [show ((k.log2 : Int) - 52 - -(p : Int)).toNat = 0 by omega, cut_zero, show (-(p : Int) - ((k.log2 : Int) - 52)).toNat = 52 - k.log2 - p by omega, Nat.shiftLeft_eq, Nat.mul_assoc, ← Nat.pow_add]
      congr 2; omega
    · rw [show (-(p : Int) - ((k.log2 : Int) - 52)).toNat = 0 by omega, Nat.shiftLeft_zero, show ((k.log2 : Int) - 52 - -(p : Int)).toNat = p - (52 - k.log2) by omega]
      have e5 : k * 2 ^ p = (k * 2 ^ (52 - k.log2)) * 2 ^ (p - (52 - k.log2)) := by
        rw [Nat.mul_assoc, ← Nat.pow_add]; congr 2; omega
      rw [e5]
      refine cut_exact s _ _ ?_
      rw [← e5, log2_mul_pow h0]; omega
  rw [hc, e4]
  have h5 : k * 2 ^ (52 - k.log2) < 2 ^ 53 := by
    have := Nat.lt_log2_self (n := k)
    calc k * 2 ^ (52 - k.log2) < 2 ^ (k.log2 + 1) * 2 ^ (52 - k.log2) := Nat.mul_lt_mul_of_pos_right this (Nat.two_pow_pos _)
      _ = 2 ^ 53 := by rw [← Nat.pow_add]; congr 1; omega
  have h6 : (1022 + k.log2) * 2 ^ 52 + k * 2 ^ (52 - k.log2) ≤ 2047 * 2 ^ 52 := by
    generalize k * 2 ^ (52 - k.log2) = y at h5 ⊢
    omega
  rw [Nat.min_eq_left h6]
theorem fw_zero (s : Bool) : fw s 0 = double.word s 0 := by unfold fw Format.nearest; rw [if_pos rfl]
theorem read_any (s : Bool) {k : Nat} (h : k < 2 ^ 53) : ∃ a : Nat, double.read (fw s k) = .number s (k * 2 ^ a) (-(a : Int)) := by
  by_cases h0 : k = 0
  · subst h0
    have hz : ∀ a : Nat, (a : Int) = 1074 → double.read (fw s 0) = .number s (0 * 2 ^ a) (-(a : Int)) := fun a ha => by
      rw [fw_zero, Nat.zero_mul, ha]
      cases s <;> decide
    obtain ⟨a, ha⟩ : ∃ a : Nat, (a : Int) = 1074 := ⟨1074, rfl⟩
    exact ⟨a, hz a ha⟩
  · have hl : k.log2 ≤ 52 := by
      have := (Nat.log2_lt h0).2 h
      omega
    refine ⟨52 - k.log2, ?_⟩
    rw [read_fw s (by omega) h]
    congr 1
    omega
theorem write_any (s : Bool) {k : Nat} (h : k < 2 ^ 53) (p : Nat) : double.nearest s (k * 2 ^ p) (-(p : Int)) = fw s k := by
  by_cases h0 : k = 0
  · subst h0
    rw [fw_zero]
    unfold Format.nearest
    rw [if_pos (by simp)]
  · exact write_exact s (by omega) h p
/-- The number of a sign and a size. -/
def sv (s : Bool) (k : Nat) : Int := if s then -(k : Int) else k
theorem signed_sv (s : Bool) (k a b : Nat) : signed s (k * 2 ^ a) b = sv s k * (2 ^ (a + b) : Nat) := by
  unfold signed sv
  rw [Nat.shiftLeft_eq, Nat.mul_assoc, ← Nat.pow_add]
  cases s
  · simp only [Bool.false_eq_true, if_false]; rw [Int.natCast_mul]
  · simp only [if_true]; rw [Int.natCast_mul, Int.neg_mul]
theorem mul_fw (s t : Bool) {k l : Nat} (hk : k < 2 ^ 53) (hl : l < 2 ^ 53) (h : k * l < 2 ^ 53) : double.mul (fw s k) (fw t l) = some (fw (s ^^ t) (k * l)) := by
  obtain ⟨a, ha⟩ := read_any s hk
  obtain ⟨b, hb⟩ := read_any t hl
  unfold Format.mul
  rw [ha, hb]
  simp only [Datum.product, Option.map_some, Format.write]
  have e1 : k * 2 ^ a * (l * 2 ^ b) = (k * l) * 2 ^ (a + b) := by
    rw [Nat.pow_add]; ac_rfl
  have e2 : (-(a : Int) + -(b : Int)) = -((a + b : Nat) : Int) := by omega
  rw [e1, e2, write_any _ h]
/-- The sign of a sum. -/
def su (s t : Bool) (z : Int) : Bool := if z = 0 then s && t else decide (z < 0)
theorem add_fw (s t : Bool) {k l : Nat} (hk : k < 2 ^ 53) (hl : l < 2 ^ 53) (h : (sv s k + sv t l).natAbs < 2 ^ 53) : double.add (fw s k) (fw t l) = some (fw (su s t (sv s k + sv t l)) (sv s k + sv t l).natAbs) := by
  obtain ⟨a, ha⟩ := read_any s hk
  obtain ⟨b, hb⟩ := read_any t hl
  unfold Format.add
  rw [ha, hb]
  simp only [Datum.sum, Option.map_some, Format.write]
  have e1 : min (-(a : Int)) (-(b : Int)) = -((max a b : Nat) : Int) := by omega
  rw [e1]
  have e2 : (-(a : Int) - -((max a b : Nat) : Int)).toNat = max a b - a := by omega
  have e3 : (-(b : Int) - -((max a b : Nat) : Int)).toNat = max a b - b := by omega
  rw [e2, e3, signed_sv, signed_sv, show a + (max a b - a) = max a b by omega, show b + (max a b - b) = max a b by omega, ← Int.add_mul]
  generalize sv s k + sv t l = z at h ⊢
  generalize max a b = p
  have hp : (0 : Int) < ((2 ^ p : Nat) : Int) := by exact_mod_cast Nat.two_pow_pos p
  have e4 : (z * ((2 ^ p : Nat) : Int)).natAbs = z.natAbs * 2 ^ p := by rw [Int.natAbs_mul]; rfl
  have e5 : (if z * ((2 ^ p : Nat) : Int) = 0 then s && t else decide (z * ((2 ^ p : Nat) : Int) < 0)) = su s t z := by
    unfold su
    by_cases hz : z = 0
    · rw [if_pos hz, if_pos (by rw [hz]; simp)]
    · rw [if_neg hz, if_neg (Int.mul_ne_zero hz (by omega))]
      congr 1
      apply propext
      constructor
      · intro hh
        exact Int.not_le.1 fun hn => Int.not_lt.2 (Int.mul_nonneg hn (Int.le_of_lt hp)) hh
      · intro hh
        exact Int.mul_neg_of_neg_of_pos hh hp
  rw [e4, e5, write_any _ h]
theorem sub_fw (s t : Bool) {k l : Nat} (hk : k < 2 ^ 53) (hl : l < 2 ^ 53) (h : (sv s k + sv (!t) l).natAbs < 2 ^ 53) : double.sub (fw s k) (fw t l) = some (fw (su s (!t) (sv s k + sv (!t) l)) (sv s k + sv (!t) l).natAbs) := by
  have e : ∀ {l : Nat}, l < 2 ^ 53 → double.read (fw (!t) l) = (double.read (fw t l)).opposite := fun {l} hl => by
    by_cases h0 : l = 0
    · subst h0
      rw [fw_zero, fw_zero]
      cases t <;> decide
    · rw [read_fw _ (by omega) hl, read_fw _ (by omega) hl]
      rfl
  rw [← add_fw s (!t) hk hl h]
  unfold Format.sub Format.add
  rw [e hl]
theorem sv_not (t : Bool) (l : Nat) : sv (!t) l = - sv t l := by
  unfold sv; cases t <;> simp
theorem cut_int (neg : Bool) (n d : Nat) : Toward.zero.cut neg (n * 2 ^ d) d = n := by
  unfold Toward.cut
  simp only [Nat.shiftLeft_eq, Nat.one_mul, Bool.toNat_false, Nat.add_zero]
  by_cases h0 : n = 0
  · subst h0; simp
  · rw [Nat.min_eq_left (by rw [log2_mul_pow (by omega)]; omega), Nat.mul_div_cancel _ (Nat.two_pow_pos d)]
theorem toInt_fw (s : Bool) {k : Nat} (hk : k < 2 ^ 53) : (double.read (fw s k)).toInt .zero = some (sv s k) := by
  obtain ⟨a, ha⟩ := read_any s hk
  rw [ha]
  unfold Datum.toInt Datum.integral
  have e1 : (-(a : Int)).toNat = 0 := by omega
  have e2 : (- -(a : Int)).toNat = a := by omega
  simp only [e1, e2, Nat.shiftLeft_zero, cut_int]
  unfold signed sv
  simp
theorem order_fw (s t : Bool) {k l : Nat} (hk : k < 2 ^ 53) (hl : l < 2 ^ 53) : double.order (fw s k) (fw t l) = some (compare (sv s k) (sv t l)) := by
  obtain ⟨a, ha⟩ := read_any s hk
  obtain ⟨b, hb⟩ := read_any t hl
  unfold Format.order
  rw [ha, hb]
  simp only [Datum.order]
  have e1 : min (-(a : Int)) (-(b : Int)) = -((max a b : Nat) : Int) := by omega
  rw [e1]
  have e2 : (-(a : Int) - -((max a b : Nat) : Int)).toNat = max a b - a := by omega
  have e3 : (-(b : Int) - -((max a b : Nat) : Int)).toNat = max a b - b := by omega
  rw [e2, e3, signed_sv, signed_sv, show a + (max a b - a) = max a b by omega, show b + (max a b - b) = max a b by omega]
  generalize sv s k = x
  generalize sv t l = y
  generalize max a b = p
  have hp : (0 : Int) < ((2 ^ p : Nat) : Int) := by exact_mod_cast Nat.two_pow_pos p
  congr 1
  rcases Int.lt_trichotomy x y with h | h | h
  · have h2 := Int.mul_lt_mul_of_pos_right h hp
    rw [Int.compare_eq_lt.2 h, Int.compare_eq_lt.2 h2]
  · subst h; simp
  · have h2 := Int.mul_lt_mul_of_pos_right h hp
    rw [Int.compare_eq_gt.2 h, Int.compare_eq_gt.2 h2]
end Go.Ab

/- Whole numbers in float64: the model's operations. No condition. -/
set_option linter.unusedVariables false
namespace Go.Ab
open Go Ieee

theorem ofInt_fw (n : Int) : floatOfInt .f64 n = fw (decide (n < 0)) n.natAbs := rfl
theorem sv_ofInt (n : Int) : sv (decide (n < 0)) n.natAbs = n := by
  unfold sv
  by_cases h : n < 0
  · simp [h]; omega
  · simp [h]; omega
theorem fAdd (s t : Bool) {k l : Nat} (hk : k < 2 ^ 53) (hl : l < 2 ^ 53) (h : (sv s k + sv t l).natAbs < 2 ^ 53) : floatBits .add .f64 (fw s k) (fw t l) = some (fw (su s t (sv s k + sv t l)) (sv s k + sv t l).natAbs) := add_fw s t hk hl h
theorem fSub (s t : Bool) {k l : Nat} (hk : k < 2 ^ 53) (hl : l < 2 ^ 53) (h : (sv s k + sv (!t) l).natAbs < 2 ^ 53) : floatBits .sub .f64 (fw s k) (fw t l) = some (fw (su s (!t) (sv s k + sv (!t) l)) (sv s k + sv (!t) l).natAbs) := sub_fw s t hk hl h
theorem fMul (s t : Bool) {k l : Nat} (hk : k < 2 ^ 53) (hl : l < 2 ^ 53) (h : k * l < 2 ^ 53) : floatBits .mul .f64 (fw s k) (fw t l) = some (fw (s ^^ t) (k * l)) := mul_fw s t hk hl h
theorem fInt (s : Bool) {k : Nat} (hk : k < 2 ^ 53) : floatToIntVal .f64 (fw s k) .i64 = some (sv s k) := by
  unfold floatToIntVal
  have h1 : (FloatKind.f64.decode (fw s k)).toInt .zero = some (sv s k) := toInt_fw s hk
  rw [h1]
  have h2 : IntKind.min .i64 ≤ sv s k ∧ sv s k ≤ IntKind.max .i64 := by
    have e1 : IntKind.min .i64 = -9223372036854775808 := by decide
    have e2 : IntKind.max .i64 = 9223372036854775807 := by decide
    rw [e1, e2]
    unfold sv
    cases s
    · simp; omega
    · simp; omega
  exact if_pos h2
theorem fw_lt (s : Bool) {k : Nat} (hk : k < 2 ^ 53) : fw false k < 2 ^ 63 ∧ fw s k = (if s = true then 2 ^ 63 + fw false k else fw false k) := by
  by_cases h0 : k = 0
  · subst h0
    rw [fw_zero, fw_zero]
    cases s <;> decide
  · have hl : k.log2 ≤ 52 := by
      have := (Nat.log2_lt h0).2 hk
      omega
    have h5 : k * 2 ^ (52 - k.log2) < 2 ^ 53 := by
      have := Nat.lt_log2_self (n := k)
      calc k * 2 ^ (52 - k.log2) < 2 ^ (k.log2 + 1) * 2 ^ (52 - k.log2) := Nat.mul_lt_mul_of_pos_right this (Nat.two_pow_pos _)
        _ = 2 ^ 53 := by rw [← Nat.pow_add]; congr 1; omega
    rw [fw_pos false (by omega) hk, fw_pos s (by omega) hk]
    unfold Format.word
    simp only [sigw]
    generalize k * 2 ^ (52 - k.log2) = y at h5 ⊢
    generalize k.log2 = g at hl ⊢
    refine ⟨?_, by simp⟩
    simp only [Bool.false_eq_true, if_false]
    omega
theorem xor_top (x : Nat) (h : x < 2 ^ 63) : x ^^^ 2 ^ 63 = 2 ^ 63 + x ∧ (2 ^ 63 + x) ^^^ 2 ^ 63 = x := by
  have h1 : x ^^^ 2 ^ 63 = 2 ^ 63 + x := by
    have := Nat.two_pow_add_eq_or_of_lt h 1
    rw [Nat.mul_one] at this
    rw [this, Nat.xor_comm]
    apply Nat.eq_of_testBit_eq
    intro i
    simp only [Nat.testBit_xor, Nat.testBit_or, Nat.testBit_two_pow]
    by_cases hi : 63 = i
    · subst hi
      rw [Nat.testBit_lt_two_pow h]; simp
    · simp [hi]
  refine ⟨h1, ?_⟩
  rw [← h1, Nat.xor_assoc, Nat.xor_self, Nat.xor_zero]
theorem fNeg (s : Bool) {k : Nat} (hk : k < 2 ^ 53) : Op.negFloat .f64 (fw s k) = fw (!s) k := by
  have h1 := fw_lt s hk
  have h2 := fw_lt (!s) hk
  unfold Op.negFloat
  have e : FloatKind.f64.format.exponentBits + FloatKind.f64.format.fractionBits = 63 := rfl
  rw [e, h1.2, h2.2]
  have x1 := xor_top _ h1.1
  cases s
  · simp only [Bool.false_eq_true, if_false, Bool.not_false, if_true]; exact x1.1
  · simp only [if_true, Bool.not_true, Bool.false_eq_true, if_false]; exact x1.2
end Go.Ab

/- Floats that are whole numbers. No condition. -/
set_option linter.unusedVariables false
namespace Go.Ab
open Go Ieee

def IsF (x : Nat) (n : Int) : Prop := ∃ s k, x = fw s k ∧ sv s k = n ∧ k < 2 ^ 53
theorem sv_abs {s : Bool} {k : Nat} {n : Int} (h : sv s k = n) : k = n.natAbs := by
  unfold sv at h; cases s <;> simp at h <;> omega
theorem sv_su (s t : Bool) (v : Int) : sv (su s t v) v.natAbs = v := by
  unfold su sv
  by_cases h : v = 0
  · subst h; simp
  · simp only [h, if_false]
    by_cases h2 : v < 0 <;> simp [h2] <;> omega
theorem isF_ofInt {n : Int} (h : n.natAbs < 2 ^ 53) : IsF (floatOfInt .f64 n) n := ⟨decide (n < 0), n.natAbs, ofInt_fw n, sv_ofInt n, h⟩
theorem isF_zero : IsF 0 0 := ⟨false, 0, by rw [fw_zero]; decide, rfl, by decide⟩
theorem isF_one : IsF 4607182418800017408 1 := by
  have h := isF_ofInt (n := 1) (by decide)
  have e : floatOfInt .f64 1 = 4607182418800017408 := by decide +kernel
  rwa [e] at h
theorem isF_add {x y : Nat} {m n : Int} (hx : IsF x m) (hy : IsF y n) (h : (m + n).natAbs < 2 ^ 53) : ∃ z, floatBits .add .f64 x y = some z ∧ IsF z (m + n) := by
  obtain ⟨s, k, rfl, rfl, hk⟩ := hx
  obtain ⟨t, l, rfl, rfl, hl⟩ := hy
  exact ⟨_, fAdd s t hk hl h, _, _, rfl, sv_su _ _ _, h⟩
theorem isF_sub {x y : Nat} {m n : Int} (hx : IsF x m) (hy : IsF y n) (h : (m - n).natAbs < 2 ^ 53) : ∃ z, floatBits .sub .f64 x y = some z ∧ IsF z (m - n) := by
  obtain ⟨s, k, rfl, rfl, hk⟩ := hx
  obtain ⟨t, l, rfl, rfl, hl⟩ := hy
  have e : sv s k + sv (!t) l = sv s k - sv t l := by rw [sv_not]; omega
  exact ⟨_, fSub s t hk hl (by rw [e]; exact h), _, _, rfl, by rw [sv_su, e], by rw [e]; exact h⟩
theorem isF_mul {x y : Nat} {m n : Int} (hx : IsF x m) (hy : IsF y n) (h : (m * n).natAbs < 2 ^ 53) : ∃ z, floatBits .mul .f64 x y = some z ∧ IsF z (m * n) := by
  obtain ⟨s, k, rfl, rfl, hk⟩ := hx
  obtain ⟨t, l, rfl, rfl, hl⟩ := hy
  have hkl : k * l < 2 ^ 53 := by
    rw [Int.natAbs_mul] at h
    rw [sv_abs (s := s) (k := k) rfl, sv_abs (s := t) (k := l) rfl]; exact h
  refine ⟨_, fMul s t hk hl hkl, _, _, rfl, ?_, hkl⟩
  unfold sv
  cases s <;> cases t <;> simp [Int.neg_mul, Int.mul_neg]
theorem isF_neg {x : Nat} {m : Int} (hx : IsF x m) : IsF (Op.negFloat .f64 x) (-m) := by
  obtain ⟨s, k, rfl, rfl, hk⟩ := hx
  exact ⟨!s, k, fNeg s hk, sv_not s k, hk⟩
theorem isF_int {x : Nat} {m : Int} (hx : IsF x m) : floatToIntVal .f64 x .i64 = some m := by
  obtain ⟨s, k, rfl, rfl, hk⟩ := hx
  exact fInt s hk
theorem isF_order {x y : Nat} {m n : Int} (hx : IsF x m) (hy : IsF y n) : FloatKind.f64.format.order x y = some (compare m n) := by
  obtain ⟨s, k, rfl, rfl, hk⟩ := hx
  obtain ⟨t, l, rfl, rfl, hl⟩ := hy
  exact order_fw s t hk hl
theorem isF_max {x y : Nat} {m n : Int} (hx : IsF x m) (hy : IsF y n) : ∃ z, fltMax .f64 x y = some z ∧ IsF z (max m n) := by
  unfold fltMax
  rw [isF_order hx hy]
  rcases Int.lt_trichotomy m n with h | h | h
  · have e : compare m n = .lt := by rw [Int.compare_eq_lt]; exact h
    rw [e]
    exact ⟨y, rfl, by rw [show max m n = n by omega]; exact hy⟩
  · subst h
    have e : compare m m = .eq := by rw [Int.compare_eq_eq]
    rw [e]
    refine ⟨_, rfl, ?_⟩
    rw [show max m m = m by omega]
    split
    · exact hy
    · exact hx
  · have e : compare m n = .gt := by rw [Int.compare_eq_gt]; exact h
    rw [e]
    exact ⟨x, rfl, by rw [show max m n = m by omega]; exact hx⟩
theorem isF_csum {a b c d : Nat} {i j k l : Int} (ha : IsF a i) (hb : IsF b j) (hc : IsF c k) (hd : IsF d l) (h1 : (i + k).natAbs < 2 ^ 53) (h2 : (j + l).natAbs < 2 ^ 53) : ∃ x y, cSumBits .add .f64 a b c d = some (x, y) ∧ IsF x (i + k) ∧ IsF y (j + l) := by
  obtain ⟨x, hx, hx2⟩ := isF_add ha hc h1
  obtain ⟨y, hy, hy2⟩ := isF_add hb hd h2
  exact ⟨x, y, by unfold cSumBits; rw [hx, hy]; rfl, hx2, hy2⟩
theorem isF_csub {a b c d : Nat} {i j k l : Int} (ha : IsF a i) (hb : IsF b j) (hc : IsF c k) (hd : IsF d l) (h1 : (i - k).natAbs < 2 ^ 53) (h2 : (j - l).natAbs < 2 ^ 53) : ∃ x y, cSumBits .sub .f64 a b c d = some (x, y) ∧ IsF x (i - k) ∧ IsF y (j - l) := by
  obtain ⟨x, hx, hx2⟩ := isF_sub ha hc h1
  obtain ⟨y, hy, hy2⟩ := isF_sub hb hd h2
  exact ⟨x, y, by unfold cSumBits; rw [hx, hy]; rfl, hx2, hy2⟩
theorem isF_cmul {a b c d : Nat} {i j k l : Int} (ha : IsF a i) (hb : IsF b j) (hc : IsF c k) (hd : IsF d l) (h1 : (i * k).natAbs < 2 ^ 52) (h2 : (j * l).natAbs < 2 ^ 52) (h3 : (i * l).natAbs < 2 ^ 52) (h4 : (j * k).natAbs < 2 ^ 52) : ∃ x y, cMulBits a b c d = some (x, y) ∧ IsF x (i * k - j * l) ∧ IsF y (i * l + j * k) := by
  obtain ⟨p, hp, hp2⟩ := isF_mul ha hc (by omega)
  obtain ⟨q, hq, hq2⟩ := isF_mul hb hd (by omega)
  obtain ⟨r, hr, hr2⟩ := isF_mul ha hd (by omega)
  obtain ⟨s, hs, hs2⟩ := isF_mul hb hc (by omega)
  obtain ⟨x, hx, hx2⟩ := isF_sub hp2 hq2 (by omega)
  obtain ⟨y, hy, hy2⟩ := isF_add hr2 hs2 (by omega)
  refine ⟨x, y, ?_, hx2, hy2⟩
  unfold cMulBits
  rw [hp, hq, hr, hs]
  simp only [Option.bind_some]
  rw [hx, hy]; rfl
end Go.Ab

/- Points: what the program's functions hand back, for parts that are not great. No condition. -/
set_option linter.unusedVariables false
set_option linter.unusedSimpArgs false
set_option maxRecDepth 100000
namespace Go.Proofs.YtekdlnofmbfdgaaDoor.Ab
open Go Go.Ab Go.Qu Go.Proofs
attribute [local simp] and_assoc
abbrev iP (a b : Int) : IV := .d (.agg [.int .i64 a, .int .i64 b])
abbrev iZ (x y : Nat) : IV := .d (.cpx .f64 x y)
/-- Not too far away. -/
def near (n : Int) : Bool := decide (-1000000 ≤ n) && decide (n ≤ 1000000)
def nearP (a b : Int) : Bool := near a && near b
theorem near_iff {n : Int} : near n = true ↔ -1000000 ≤ n ∧ n ≤ 1000000 := by simp [near]
@[simp] theorem w_near (n : Int) : C 62 [iI n] = some (iB (near n), [iI n]) := by
  refine wfn (lk := []) rfl rfl (fnW_way (q62 _ _ n _) ?_)
  by_cases h1 : -1000000 ≤ n <;> by_cases h2 : n ≤ 1000000 <;> simp [h1, h2, near]
@[simp] theorem w_pmay (a b : Int) : C 36 [iP a b] = some (iB (nearP a b), [iP a b]) := by
  refine wfn (lk := []) rfl rfl (fnW_way (q36 _ _ a b _) ?_)
  cases h1 : near a <;> cases h2 : near b <;> simp [nearP, h1, h2]
theorem w_of (a b : Int) : C 37 [iP a b] = some (iZ (floatOfInt .f64 a) (floatOfInt .f64 b), [iP a b]) :=
  wfn (lk := []) rfl rfl (fnW_way (q37 _ _ a b _) (by simp))
theorem w_back {x y : Nat} {m n : Int} (hx : IsF x m) (hy : IsF y n) : C 35 [iZ x y] = some (iP m n, [iZ x y]) := by
  refine wfn (lk := []) rfl rfl (fnW_way (q35 _ _ x y _) ?_)
  simp [isF_int hx, isF_int hy]
/-- What is told of two points and what comes of them. -/
def toldE (a b c d m n : Int) : Int := if (nearP a b && nearP c d) = true then (if nearP m n = true then 0 else 901) else 900
def toldV (a b c d m n x : Int) : Int := if ((nearP a b && nearP c d) && nearP m n) = true then x else 0
theorem near_53 {a : Int} (h : near a = true) : a.natAbs < 2 ^ 53 := by rw [near_iff] at h; omega
theorem mul_52 {a b : Int} (ha : near a = true) (hb : near b = true) : (a * b).natAbs < 2 ^ 52 := by
  rw [near_iff] at ha hb
  rw [Int.natAbs_mul]
  calc a.natAbs * b.natAbs ≤ 1000000 * 1000000 := Nat.mul_le_mul (by omega) (by omega)
    _ < 2 ^ 52 := by decide
theorem nearP_iff {a b : Int} : nearP a b = true ↔ near a = true ∧ near b = true := by simp [nearP]
theorem w_under {a b c d : Int} (hp : nearP a b = true) (hq : nearP c d = true) : C 18 [iP a b, iP c d] = some (.tup [iB (decide (a ≤ c) && decide (b ≤ d)), iI 0], [iP a b, iP c d]) := by
  refine wfn (lk := []) rfl rfl (fnW_way (q18 _ _ a b c d _) ?_)
  have hp' := hp; have hq' := hq
  rw [nearP_iff] at hp hq
  have n1 := near_iff.1 hp.1; have n2 := near_iff.1 hp.2; have n3 := near_iff.1 hq.1; have n4 := near_iff.1 hq.2
  obtain ⟨x, y, h1, h2, h3⟩ := isF_csub (isF_ofInt (near_53 hq.1)) (isF_ofInt (near_53 hq.2)) (isF_ofInt (near_53 hp.1)) (isF_ofInt (near_53 hp.2)) (by omega) (by omega)
  have o1 := isF_order h2 isF_zero
  have o2 := isF_order h3 isF_zero
  have k : ∀ m n : Int, ((some (compare (m - n) 0) == some Ordering.gt) || (some (compare (m - n) 0) == some Ordering.eq)) = decide (n ≤ m) := fun m n => by
    rcases Int.lt_trichotomy (m - n) 0 with h | h | h
    · rw [(Int.compare_eq_lt).2 h]; simp; omega
    · rw [(Int.compare_eq_eq).2 h]; simp; omega
    · rw [(Int.compare_eq_gt).2 h]; simp; omega
  simp only [w_pmay, hp', hq', condW_tt, w_of, h1, Option.isSome_some, Option.getD_some, o1, o2, k, Option.some.injEq, Prod.mk.injEq, IV.d.injEq, D.bool.injEq, D.cpx.injEq, List.cons.injEq, and_true]
  refine ⟨true, _, ⟨rfl, rfl⟩, true, _, ⟨rfl, rfl⟩, _, _, _, ⟨⟨trivial, rfl, rfl⟩, rfl⟩, _, _, _, ⟨⟨trivial, rfl, rfl⟩, rfl⟩, ?_⟩
  simp only [h1, Option.isSome_some, Option.getD_some, o1, o2, k, condW_tt]
  by_cases c1 : a ≤ c <;> by_cases c2 : b ≤ d <;> simp [c1, c2]
end Go.Proofs.YtekdlnofmbfdgaaDoor.Ab

/- The points of clauses: what the program's and the reference's functions hand back. For every input; no condition. -/
set_option linter.unusedVariables false
set_option linter.unusedSimpArgs false
set_option maxRecDepth 100000
namespace Go.Proofs.YtekdlnofmbfdgaaDoor.Ab
open Go Go.Ab Go.Qu Go.Proofs
attribute [local simp] and_assoc
theorem atom_sum {g : List Sym} (hg : SigOk g) {a : List Int} (h : atomB g a = true) : 1 ≤ sumW g a ∧ sumW g a ≤ 980 ∧ Len a ∧ Known g a := by
  have h1 := (atom_codes h).1
  have h2 := atom_known h
  have h3 := sumW_le hg a h2
  have h4 : 1 ≤ a.length := by
    cases a with
    | nil => simp [atomB] at h
    | cons _ _ => simp
  exact ⟨by omega, by omega, by unfold Len; omega, h2⟩
theorem w_weigh {g : List Sym} (hg : SigOk g) {b : Bool} {a : List Int} (h : atomB g a = true) (z z' : Bool) (e e' : List D) : ∃ x y, IsF x (if b then 0 else sumW g a) ∧ IsF y (if b then sumW g a else 0) ∧ C 34 [iG z g e, iLit b z' a e'] = some (iZ x y, [iG z g e, iLit b z' a e']) := by
  obtain ⟨h1, h2, h3, h4⟩ := atom_sum hg h
  have hs := w_sum hg h3 h4 z z' e e'
  have hF := isF_ofInt (n := sumW g a) (by omega)
  cases b with
  | false =>
    refine ⟨_, _, hF, isF_zero, wfn (lk := []) rfl rfl (fnW_way (q34 _ _ z (syms g) e false z' (ints a) e' _) ?_)⟩
    exact ⟨_, _, _, hs, by rw [condW_ff]⟩
  | true =>
    obtain ⟨x, y, c1, c2, c3⟩ := isF_cmul hF isF_zero isF_zero isF_one (by omega) (by omega) (by omega) (by omega)
    have e1 : sumW g a * 0 - 0 * 1 = 0 := by omega
    have e2 : sumW g a * 1 + 0 * 0 = sumW g a := by omega
    rw [e1] at c2; rw [e2] at c3
    refine ⟨x, y, c2, c3, wfn (lk := []) rfl rfl (fnW_way (q34 _ _ z (syms g) e true z' (ints a) e' _) ?_)⟩
    refine ⟨_, _, _, hs, ?_⟩
    rw [condW_tt, c1]
    simp
theorem ptF_cons (g : List Sym) (l : LitR) (ls : List LitR) (a b : Int) : ptF g (l :: ls) a b = if l.neg then ptF g ls a (if sumW g l.r.l > b then sumW g l.r.l else b) else ptF g ls (if sumW g l.r.l > a then sumW g l.r.l else a) b := by rw [ptF]
theorem ptF_le {g : List Sym} (hg : SigOk g) : ∀ (ls : List LitR) (a b : Int), litsB g ls = true → 0 ≤ a → a ≤ 980 → 0 ≤ b → b ≤ 980 → 0 ≤ (ptF g ls a b).1 ∧ (ptF g ls a b).1 ≤ 980 ∧ 0 ≤ (ptF g ls a b).2 ∧ (ptF g ls a b).2 ≤ 980
  | [], a, b, h, h1, h2, h3, h4 => ⟨h1, h2, h3, h4⟩
  | l :: ls, a, b, h, h1, h2, h3, h4 => by
    simp only [litsB, List.all_cons, Bool.and_eq_true] at h
    have hs := atom_sum hg h.1
    rw [ptF_cons]
    split
    · refine ptF_le hg ls _ _ h.2 h1 h2 ?_ ?_ <;> split <;> omega
    · refine ptF_le hg ls _ _ h.2 ?_ ?_ h3 h4 <;> split <;> omega
theorem w_pof (z : Bool) (g : List Sym) (e : List D) (c : Cl) : C 17 [iG z g e, iC c] = some (.tup [iP (if clB g c = true then (ptM g c).1 else 0) (if clB g c = true then (ptM g c).2 else 0), iI (if clB g c = true then 0 else 900)], [iG z g e, iC c]) := by
  refine wfn (lk := []) rfl rfl (fnW_way (q17 _ _ z (syms g) e c.lz (lits c.ls) c.le c.tz (rws c.ts) c.te c.cz (lits c.cs) c.ce _) ?_)
  have h1 := w_clmay z g e c
  refine ⟨_, _, _, h1, ?_⟩
  cases hB : clB g c
  · simp
  rw [condW_tt]
  simp only [clB, Bool.and_eq_true, decide_eq_true_eq] at hB
  obtain ⟨hg, l1, l2, l3, hb, _⟩ := hB
  have hso := sigOk hg
  obtain ⟨o, h2, fx, fy, rfl, fa, fb⟩ := blk_rule (F := F) (d := d17) (lk := []) (p := [1,1,1,0,1,0,0]) (p0 := [1,1,1,0,1]) 0 (by kernel_rfl) (fun (x : Nat × (Int × Int) × (Nat × Nat)) => [(0, iG z g e), (4, .dbox 43 0 [.int .i64 0, .int .i64 0]), (6, iZ x.2.2.1 x.2.2.2), (16, iL c.lz c.ls c.le), (17, iI c.ls.length), (18, iI x.1)]) (fun x => x.1 ≤ c.ls.length ∧ 0 ≤ x.2.1.1 ∧ 0 ≤ x.2.1.2 ∧ IsF x.2.2.1 x.2.1.1 ∧ IsF x.2.2.2 x.2.1.2) (fun x => c.ls.length - x.1)
    (fun x o => ∃ fx fy, o = .norm [(0, iG z g e), (4, .dbox 43 0 [.int .i64 0, .int .i64 0]), (6, iZ fx fy), (16, iL c.lz c.ls c.le), (17, iI c.ls.length), (18, iI c.ls.length)] ∧ IsF fx (ptF g (c.ls.drop x.1) x.2.1.1 x.2.1.2).1 ∧ IsF fy (ptF g (c.ls.drop x.1) x.2.1.1 x.2.1.2).2)
    (fun x hx => by
      obtain ⟨i, ⟨a, b⟩, ⟨fx, fy⟩⟩ := x
      obtain ⟨hx1, hx2, hx3, hx4, hx5⟩ := hx
      dsimp only at hx1 hx2 hx3 hx4 hx5 ⊢
      by_cases hi : i < c.ls.length
      · obtain ⟨l, hl⟩ := at_lt hi
        have hd : c.ls.drop i = l :: c.ls.drop (i + 1) := by
          rw [List.drop_eq_getElem_cons hi]
          rw [List.getElem?_eq_getElem hi] at hl
          cases hl; rfl
        have hat : atomB g l.r.l = true := by
          unfold litsB at hb
          rw [List.all_eq_true] at hb
          exact hb l (List.mem_of_getElem? hl)
        have hs := atom_sum hso hat
        obtain ⟨wx, wy, w1, w2, w3⟩ := w_weigh hso (b := l.neg) hat z l.r.z e l.r.e
        obtain ⟨mx, m1, m2⟩ := isF_max hx4 w1
        obtain ⟨my, m3, m4⟩ := isF_max hx5 w2
        have hi' : (i : Int) < c.ls.length := by omega
        left
        refine ⟨(i + 1, (max a (if l.neg then 0 else sumW g l.r.l), max b (if l.neg then sumW g l.r.l else 0)), (mx, my)), wpQ_way (q17_l0a _ _ z (syms g) e 0 0 fx fy c.lz (lits c.ls) c.le _ i _) ?_, ⟨by dsimp only; omega, by dsimp only; omega, by dsimp only; omega, m2, m4⟩, by dsimp only; omega, ?_⟩
        · simp [-Bool.exists_bool, -getElem?_pos, -Int.natCast_add, hi', lits_at hl, w3, m1, m3, wr1 hi (by omega)]
        · rintro o ⟨gx, gy, rfl, g1, g2⟩
          refine ⟨gx, gy, rfl, ?_⟩
          dsimp only at g1 g2
          rw [hd, ptF_cons]
          cases hn : l.neg
          · rw [hn] at g1 g2
            have e1 : max a (if (false : Bool) = true then 0 else sumW g l.r.l) = (if sumW g l.r.l > a then sumW g l.r.l else a) := by simp; omega
            have e2 : max b (if (false : Bool) = true then sumW g l.r.l else 0) = b := by simp; omega
            rw [e1, e2] at g1 g2
            exact ⟨g1, g2⟩
          · rw [hn] at g1 g2
            have e1 : max a (if (true : Bool) = true then 0 else sumW g l.r.l) = a := by simp; omega
            have e2 : max b (if (true : Bool) = true then sumW g l.r.l else 0) = (if sumW g l.r.l > b then sumW g l.r.l else b) := by simp; omega
            rw [e1, e2] at g1 g2
            exact ⟨g1, g2⟩
      · have e1 : i = c.ls.length := by omega
        subst e1
        right
        refine ⟨.exit 0 [(0, iG z g e), (4, .dbox 43 0 [.int .i64 0, .int .i64 0]), (6, iZ fx fy), (16, iL c.lz c.ls c.le), (17, iI c.ls.length), (18, iI c.ls.length)], wpQ_way (q17_l0a _ _ z (syms g) e 0 0 fx fy c.lz (lits c.ls) c.le _ _ _) (by simp), rfl, fx, fy, by simp [blkO], ?_⟩
        rw [List.drop_length]
        exact ⟨hx4, hx5⟩) (0, (0, 0), (0, 0)) ⟨Nat.zero_le _, Int.le_refl _, Int.le_refl _, isF_zero, isF_zero⟩
  dsimp only at h2 fa fb
  rw [List.drop_zero] at fa fb
  have h3 := w_back fa fb
  refine ⟨_, _, _, _, _, _, _, _, _, _, _, _, by rw [lits_len]; exact h2, .inl ⟨_, _, _, h3, ?_⟩⟩
  simp [ptM]
end Go.Proofs.YtekdlnofmbfdgaaDoor.Ab
