/- Plain arithmetic for layer 3 (sum): the sign tests by exclusive or; nothing of the program in sight. -/
import Derived.RowKit
import Derived.Laws.BitsLemmas
import Derived.Laws.BitsAllLaws
namespace Go.Proofs.Ytidofjmflpcglaa.SumPlain
open Go Go.RowKit
set_option linter.unusedVariables false
set_option linter.unusedSimpArgs false

theorem wrap_toInt (x : BitVec 64) : IntKind.i64.wrap (x.toNat : Int) = x.toInt := by
  rw [IntKind.wrap_i64, BitVec.toInt_eq_toNat_cond]
  have := x.isLt
  split <;> omega
theorem toInt_of (a : Int) (h1 : -9223372036854775808 ≤ a) (h2 : a ≤ 9223372036854775807) : (BitVec.ofInt 64 a).toInt = a := by
  rw [BitVec.toInt_ofInt, Int.bmod_def]
  omega
theorem bits_and (a b : Int) : Go.bits .and .i64 a b = (BitVec.ofInt 64 a &&& BitVec.ofInt 64 b).toInt := wrap_toInt _
theorem bits_xor (a b : Int) : Go.bits .xor .i64 a b = (BitVec.ofInt 64 a ^^^ BitVec.ofInt 64 b).toInt := wrap_toInt _
theorem neg_iff (x : BitVec 64) : x.toInt < 0 ↔ x.msb = true := by
  rw [BitVec.msb_eq_toInt]; simp
theorem ofInt_toInt (x : BitVec 64) : BitVec.ofInt 64 x.toInt = x := BitVec.ofInt_toInt
theorem msb_of (a : Int) (h1 : -9223372036854775808 ≤ a) (h2 : a ≤ 9223372036854775807) : (BitVec.ofInt 64 a).msb = decide (a < 0) := by
  rw [BitVec.msb_eq_toInt, toInt_of a h1 h2]
theorem wrap64_range (n : Int) : -9223372036854775808 ≤ wrap64 n ∧ wrap64 n ≤ 9223372036854775807 := by
  unfold wrap64; omega
/-- '(a ^ b) & (c ^ d) < 0': a and b of unlike signs, and c and d. -/
theorem signs (a b c d : Int) (ha : -9223372036854775808 ≤ a ∧ a ≤ 9223372036854775807) (hb : -9223372036854775808 ≤ b ∧ b ≤ 9223372036854775807)
    (hc : -9223372036854775808 ≤ c ∧ c ≤ 9223372036854775807) (hd : -9223372036854775808 ≤ d ∧ d ≤ 9223372036854775807) :
    Go.bits .and .i64 (Go.bits .xor .i64 a b) (Go.bits .xor .i64 c d) < 0 ↔ ((a < 0 ↔ ¬ b < 0) ∧ (c < 0 ↔ ¬ d < 0)) := by
  rw [bits_and, bits_xor, bits_xor, ofInt_toInt, ofInt_toInt, neg_iff, BitVec.msb_and, BitVec.msb_xor, BitVec.msb_xor, msb_of a ha.1 ha.2, msb_of b hb.1 hb.2, msb_of c hc.1 hc.2, msb_of d hd.1 hd.2]
  by_cases h1 : a < 0 <;> by_cases h2 : b < 0 <;> by_cases h3 : c < 0 <;> by_cases h4 : d < 0 <;> simp [h1, h2, h3, h4]

/-- What a sum, a difference, a product that may leave the 64 bits comes to. -/
def fit (n : Int) : Int × Bool := if -9223372036854775808 ≤ n ∧ n ≤ 9223372036854775807 then (n, true) else (0, false)
def I64 (a : Int) : Prop := -9223372036854775808 ≤ a ∧ a ≤ 9223372036854775807
theorem fit_in {n : Int} (h : -9223372036854775808 ≤ n ∧ n ≤ 9223372036854775807) : fit n = (n, true) := if_pos h
theorem fit_out {n : Int} (h : ¬ (-9223372036854775808 ≤ n ∧ n ≤ 9223372036854775807)) : fit n = (0, false) := if_neg h
theorem wrap64_in {n : Int} (h : -9223372036854775808 ≤ n ∧ n ≤ 9223372036854775807) : wrap64 n = n := by unfold wrap64; omega

theorem add_eq (a b : Int) (ha : I64 a) (hb : I64 b) :
    (if (Go.bits .and .i64 (Go.bits .xor .i64 a (wrap64 (a + b))) (Go.bits .xor .i64 b (wrap64 (a + b)))) < 0 then (some ((0 : Int), false)) else (some (wrap64 (a + b), true))) = some (fit (a + b)) := by
  have hs := signs a (wrap64 (a + b)) b (wrap64 (a + b)) ha (wrap64_range _) hb (wrap64_range _)
  unfold I64 at ha hb
  by_cases h : -9223372036854775808 ≤ a + b ∧ a + b ≤ 9223372036854775807
  · rw [fit_in h, if_neg, wrap64_in h]
    rw [hs, wrap64_in h]; omega
  · rw [fit_out h, if_pos]
    rw [hs]; unfold wrap64; omega
theorem sub_eq (a b : Int) (ha : I64 a) (hb : I64 b) :
    (if (Go.bits .and .i64 (Go.bits .xor .i64 a b) (Go.bits .xor .i64 a (wrap64 (a - b)))) < 0 then (some ((0 : Int), false)) else (some (wrap64 (a - b), true))) = some (fit (a - b)) := by
  have hs := signs a b a (wrap64 (a - b)) ha hb ha (wrap64_range _)
  unfold I64 at ha hb
  by_cases h : -9223372036854775808 ≤ a - b ∧ a - b ≤ 9223372036854775807
  · rw [fit_in h, if_neg, wrap64_in h]
    rw [hs, wrap64_in h]; omega
  · rw [fit_out h, if_pos]
    rw [hs]; unfold wrap64; omega

theorem radd_eq (a b : Int) (ha : I64 a) (hb : I64 b) :
    (if b > 0 then (if a > (wrap64 (9223372036854775807 - b)) then (some ((0 : Int), false)) else (if b < 0 then (if a < (wrap64 ((-9223372036854775808) - b)) then (some (0, false)) else (some (wrap64 (a + b), true))) else (some (wrap64 (a + b), true)))) else (if b < 0 then (if a < (wrap64 ((-9223372036854775808) - b)) then (some (0, false)) else (some (wrap64 (a + b), true))) else (some (wrap64 (a + b), true)))) = some (fit (a + b)) := by
  unfold I64 at ha hb
  by_cases h : -9223372036854775808 ≤ a + b ∧ a + b ≤ 9223372036854775807
  · rw [fit_in h, wrap64_in h]
    by_cases h1 : b > 0
    · rw [if_pos h1, wrap64_in (by omega), if_neg (by omega), if_neg (by omega)]
    · rw [if_neg h1]
      by_cases h2 : b < 0
      · rw [if_pos h2, wrap64_in (by omega), if_neg (by omega)]
      · rw [if_neg h2]
  · rw [fit_out h]
    by_cases h1 : b > 0
    · rw [if_pos h1, wrap64_in (n := 9223372036854775807 - b) (by omega), if_pos (by omega)]
    · rw [if_neg h1, if_pos (by omega), wrap64_in (n := -9223372036854775808 - b) (by omega), if_pos (by omega)]
theorem rsub_eq (a b : Int) (ha : I64 a) (hb : I64 b) :
    (if b < 0 then (if a > (wrap64 (9223372036854775807 + b)) then (some ((0 : Int), false)) else (if b > 0 then (if a < (wrap64 ((-9223372036854775808) + b)) then (some (0, false)) else (some (wrap64 (a - b), true))) else (some (wrap64 (a - b), true)))) else (if b > 0 then (if a < (wrap64 ((-9223372036854775808) + b)) then (some (0, false)) else (some (wrap64 (a - b), true))) else (some (wrap64 (a - b), true)))) = some (fit (a - b)) := by
  unfold I64 at ha hb
  by_cases h : -9223372036854775808 ≤ a - b ∧ a - b ≤ 9223372036854775807
  · rw [fit_in h, wrap64_in h]
    by_cases h1 : b < 0
    · rw [if_pos h1, wrap64_in (by omega), if_neg (by omega), if_neg (by omega)]
    · rw [if_neg h1]
      by_cases h2 : b > 0
      · rw [if_pos h2, wrap64_in (by omega), if_neg (by omega)]
      · rw [if_neg h2]
  · rw [fit_out h]
    by_cases h1 : b < 0
    · rw [if_pos h1, wrap64_in (n := 9223372036854775807 + b) (by omega), if_pos (by omega)]
    · rw [if_neg h1, if_pos (by omega), wrap64_in (n := -9223372036854775808 + b) (by omega), if_pos (by omega)]

/-- How far a is from 0. -/
def mag (a : Int) : Int := if a < 0 then -a else a
theorem mag_range (a : Int) (ha : I64 a) : 0 ≤ mag a ∧ mag a < 18446744073709551616 := by unfold I64 at ha; unfold mag; split <;> omega
theorem amount_eq (a : Int) (ha : I64 a) : (if a < 0 then (some (IntKind.u64.wrap (-(IntKind.u64.wrap (a))))) else (some (IntKind.u64.wrap (a)))) = some (mag a) := by
  unfold I64 at ha
  simp only [IntKind.wrap_u64]
  unfold mag
  split <;> (congr 1; omega)
theorem low32 (x : Int) (h0 : 0 ≤ x) (h1 : x < 18446744073709551616) : Go.bits .and .u64 x 4294967295 = x % 4294967296 := by
  rw [u64_and x 4294967295 h0 h1 (by omega) (by omega)]
  have : x.toNat &&& (4294967295 : Int).toNat = x.toNat % 4294967296 := Nat.and_two_pow_sub_one_eq_mod x.toNat 32
  rw [this]; omega
theorem mul64_eq (x y : Int) (hx : 0 ≤ x ∧ x < 18446744073709551616) (hy : 0 ≤ y ∧ y < 18446744073709551616) :
    (some (IntKind.u64.wrap ((IntKind.u64.wrap ((IntKind.u64.wrap ((x / 4294967296) * (y / 4294967296))) + ((IntKind.u64.wrap ((IntKind.u64.wrap ((x / 4294967296) * (Go.bits .and .u64 y 4294967295))) + ((IntKind.u64.wrap ((Go.bits .and .u64 x 4294967295) * (Go.bits .and .u64 y 4294967295))) / 4294967296))) / 4294967296))) + ((IntKind.u64.wrap ((Go.bits .and .u64 (IntKind.u64.wrap ((IntKind.u64.wrap ((x / 4294967296) * (Go.bits .and .u64 y 4294967295))) + ((IntKind.u64.wrap ((Go.bits .and .u64 x 4294967295) * (Go.bits .and .u64 y 4294967295))) / 4294967296))) 4294967295) + (IntKind.u64.wrap ((Go.bits .and .u64 x 4294967295) * (y / 4294967296))))) / 4294967296)), IntKind.u64.wrap (x * y)) : Option (Int × Int)) =
      some (x * y / 18446744073709551616, x * y % 18446744073709551616) := by
  rw [low32 x hx.1 hx.2, low32 y hy.1 hy.2]
  have h1 : x = x / 4294967296 * 4294967296 + x % 4294967296 := by omega
  have h2 : y = y / 4294967296 * 4294967296 + y % 4294967296 := by omega
  have hp : x * y = (x / 4294967296) * (y / 4294967296) * 18446744073709551616 + ((x / 4294967296) * (y % 4294967296) + (x % 4294967296) * (y / 4294967296)) * 4294967296 + (x % 4294967296) * (y % 4294967296) := by
    generalize x / 4294967296 = x1 at *
    generalize x % 4294967296 = x0 at *
    generalize y / 4294967296 = y1 at *
    generalize y % 4294967296 = y0 at *
    subst h1 h2
    grind
  have b1 : 0 ≤ x / 4294967296 ∧ x / 4294967296 ≤ 4294967295 := by omega
  have b2 : 0 ≤ x % 4294967296 ∧ x % 4294967296 ≤ 4294967295 := by omega
  have b3 : 0 ≤ y / 4294967296 ∧ y / 4294967296 ≤ 4294967295 := by omega
  have b4 : 0 ≤ y % 4294967296 ∧ y % 4294967296 ≤ 4294967295 := by omega
  rw [hp]
  generalize x / 4294967296 = x1 at *
  generalize x % 4294967296 = x0 at *
  generalize y / 4294967296 = y1 at *
  generalize y % 4294967296 = y0 at *
  have m (u v : Int) (hu : 0 ≤ u ∧ u ≤ 4294967295) (hv : 0 ≤ v ∧ v ≤ 4294967295) : 0 ≤ u * v ∧ u * v ≤ 18446744065119617025 :=
    ⟨Int.mul_nonneg hu.1 hv.1, by have := Int.mul_le_mul hu.2 hv.2 hv.1 (by omega : (0 : Int) ≤ 4294967295); omega⟩
  have m1 := m x1 y1 b1 b3
  have m2 := m x1 y0 b1 b4
  have m3 := m x0 y0 b2 b4
  have m4 := m x0 y1 b2 b3
  clear hp h1 h2 b1 b2 b3 b4 m
  generalize x1 * y1 = A at *
  generalize x1 * y0 = B at *
  generalize x0 * y0 = C at *
  generalize x0 * y1 = D at *
  have hl : Go.bits .and .u64 ((B % 18446744073709551616 + C % 18446744073709551616 / 4294967296) % 18446744073709551616) 4294967295 = (B + C / 4294967296) % 4294967296 := by
    rw [low32 _ (by omega) (by omega)]; omega
  simp only [IntKind.wrap_u64]
  rw [hl]
  congr 2 <;> omega
theorem mag_mul (a b : Int) : mag a * mag b = if (decide (a < 0) != decide (b < 0)) = true then -(a * b) else a * b := by
  unfold mag
  by_cases h1 : a < 0 <;> by_cases h2 : b < 0 <;> simp [h1, h2, Int.neg_mul, Int.mul_neg]
theorem mul_eq (a b : Int) (ha : I64 a) (hb : I64 b) :
    (if mag a * mag b / 18446744073709551616 = 0 then
      (if ((decide (a < 0)) != (decide (b < 0))) = true then
        (if (decide (mag a * mag b % 18446744073709551616 ≤ 9223372036854775808)) = true then (some (wrap64 (IntKind.u64.wrap (-(mag a * mag b % 18446744073709551616))), true))
          else (if ((decide (a < 0)) != (decide (b < 0))) = true then (some ((0 : Int), false)) else (if mag a * mag b % 18446744073709551616 < 9223372036854775808 then (some (wrap64 (mag a * mag b % 18446744073709551616), true)) else (some (0, false)))))
      else
        (if false = true then (some (wrap64 (IntKind.u64.wrap (-(mag a * mag b % 18446744073709551616))), true))
          else (if ((decide (a < 0)) != (decide (b < 0))) = true then (some (0, false)) else (if mag a * mag b % 18446744073709551616 < 9223372036854775808 then (some (wrap64 (mag a * mag b % 18446744073709551616), true)) else (some (0, false))))))
    else (some (0, false))) = some (fit (a * b)) := by
  have h0 : 0 ≤ mag a * mag b := Int.mul_nonneg (mag_range a ha).1 (mag_range b hb).1
  have hm := mag_mul a b
  generalize mag a * mag b = M at *
  generalize a * b = p at *
  simp only [IntKind.wrap_u64]
  by_cases hs : (decide (a < 0) != decide (b < 0)) = true
  · rw [if_pos hs] at hm
    subst hm
    by_cases h : -9223372036854775808 ≤ p ∧ p ≤ 9223372036854775807
    · rw [fit_in h, if_pos (by omega), if_pos hs, if_pos (by simp; omega)]
      congr 2
      unfold wrap64; omega
    · rw [fit_out h]
      by_cases hh : -p / 18446744073709551616 = 0
      · rw [if_pos hh, if_pos hs, if_neg (by simp; omega), if_pos hs]
      · rw [if_neg hh]
  · rw [if_neg hs] at hm
    subst hm
    by_cases h : -9223372036854775808 ≤ M ∧ M ≤ 9223372036854775807
    · rw [fit_in h, if_pos (by omega), if_neg hs, if_neg (by decide), if_neg hs, if_pos (by omega)]
      congr 2
      unfold wrap64; omega
    · rw [fit_out h]
      by_cases hh : M / 18446744073709551616 = 0
      · rw [if_pos hh, if_neg hs, if_neg (by decide), if_neg hs, if_neg (by omega)]
      · rw [if_neg hh]
theorem tdiv_off (a b k : Int) (ha : I64 a) (hb : I64 b) (h0 : b ≠ 0) (hk : k ≠ 0) : Int.tdiv (a * b + k * 18446744073709551616) b ≠ a := by
  intro h
  have h1 := Int.mul_tdiv_add_tmod (a * b + k * 18446744073709551616) b
  rw [h] at h1
  have h2 : Int.tmod (a * b + k * 18446744073709551616) b = k * 18446744073709551616 := by rw [Int.mul_comm b a] at h1; omega
  have h3 : (Int.tmod (a * b + k * 18446744073709551616) b).natAbs < b.natAbs := by
    rw [Int.natAbs_tmod]; exact Nat.mod_lt _ (by omega)
  unfold I64 at hb
  omega
theorem rmul_eq (a b : Int) (ha : I64 a) (hb : I64 b) :
    (if a = 0 then (if true = true then (some ((0 : Int), true)) else (if a = (-1) then ((some (fit (0 - b))).bind fun t => (some (t.1, t.2))) else (if b = (-1) then ((some (fit (0 - a))).bind fun t => (some (t.1, t.2))) else (if b = 0 then (none) else (if (wrap64 (Int.tdiv (wrap64 (a * b)) b)) = a then (some (wrap64 (a * b), true)) else (some (0, false)))))))
     else (if (b == 0) = true then (some (0, true)) else (if a = (-1) then ((some (fit (0 - b))).bind fun t => (some (t.1, t.2))) else (if b = (-1) then ((some (fit (0 - a))).bind fun t => (some (t.1, t.2))) else (if b = 0 then (none) else (if (wrap64 (Int.tdiv (wrap64 (a * b)) b)) = a then (some (wrap64 (a * b), true)) else (some (0, false)))))))) = some (fit (a * b)) := by
  by_cases h1 : a = 0
  · subst h1; simp [fit]
  rw [if_neg h1]
  by_cases h2 : b = 0
  · subst h2; simp [fit]
  rw [if_neg (by simpa using h2)]
  by_cases h3 : a = -1
  · subst h3; rw [if_pos rfl]
    have : (-1 : Int) * b = 0 - b := by omega
    rw [this]; rfl
  rw [if_neg h3]
  by_cases h4 : b = -1
  · subst h4; rw [if_pos rfl]
    have : a * (-1 : Int) = 0 - a := by omega
    rw [this]; rfl
  rw [if_neg h4, if_neg h2]
  by_cases h : -9223372036854775808 ≤ a * b ∧ a * b ≤ 9223372036854775807
  · rw [fit_in h, wrap64_in h, Int.mul_tdiv_cancel a h2, wrap64_in ha, if_pos rfl]
  · rw [fit_out h, if_neg]
    obtain ⟨k, hk⟩ : ∃ k, wrap64 (a * b) = a * b + k * 18446744073709551616 := ⟨-((a * b + 9223372036854775808) / 18446744073709551616), by unfold wrap64; omega⟩
    have hr := wrap64_range (a * b)
    have hk0 : k ≠ 0 := by rintro rfl; omega
    have ht := tdiv_off a b k ha hb h2 hk0
    rw [← hk] at ht
    have hq : -9223372036854775808 ≤ Int.tdiv (wrap64 (a * b)) b ∧ Int.tdiv (wrap64 (a * b)) b ≤ 9223372036854775807 := by
      by_cases h1' : b = 1
      · rw [h1', Int.tdiv_one]; exact wrap64_range _
      · have hb1 : (Int.tdiv (wrap64 (a * b)) b).natAbs ≤ 4611686018427387904 := by
          rw [Int.natAbs_tdiv]
          have h5 : 2 ≤ b.natAbs := by omega
          have h6 : (wrap64 (a * b)).natAbs ≤ 9223372036854775808 := by omega
          exact Nat.le_trans (Nat.div_le_div h6 h5 (by omega)) (by omega)
        generalize Int.tdiv (wrap64 (a * b)) b = q at *
        clear ht hk h
        omega
    rw [wrap64_in hq]
    exact ht
end Go.Proofs.Ytidofjmflpcglaa.SumPlain
