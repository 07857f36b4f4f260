/- tillref1.Sum: what it computes. -/
import Derived.Test.YtoeiaimoppmjdaaSumWalk
import Derived.Test.YtoeiaimoppmjdaaCrcRef
import Derived.Deep.RegionHeld3
namespace Go.Proofs.Ytoeiaimoppmjdaa.Crc
open Go.RowKit
set_option linter.unusedVariables false
set_option linter.unusedSimpArgs false
theorem rev_bit (s : B) (i : Nat) (h : i < 32) : s.reverse.getLsbD i = s.getLsbD (31 - i) := by
  rw [BitVec.getLsbD_reverse, BitVec.getMsbD]; simp [h]
theorem rev_top (s : B) : s.reverse.toNat / 2147483648 = if s.getLsbD 0 = true then 1 else 0 := by
  have h := rev_bit s 31 (by omega)
  rw [BitVec.getLsbD, Nat.testBit_eq_decide_div_mod_eq] at h
  have hl := s.reverse.isLt
  rw [show (31 - 31 : Nat) = 0 from rfl] at h
  rw [← h]
  by_cases h2 : s.reverse.toNat / 2 ^ 31 % 2 = 1
  · rw [if_pos (by simp [h2])]; omega
  · rw [if_neg (by simp [h2])]; omega
def b01 (b : Bool) : B := if b = true then 1#32 else 0#32
theorem rev_shift (s : B) (b : Bool) : (s.reverse <<< 1) ||| b01 b = ((s >>> 1) ^^^ bit b).reverse := by
  apply BitVec.eq_of_getLsbD_eq
  intro i hi
  rw [rev_bit _ i hi, BitVec.getLsbD_or, BitVec.getLsbD_xor, BitVec.getLsbD_shiftLeft, BitVec.getLsbD_ushiftRight]
  have t1 : ∀ i, i < 32 → top.getLsbD i = decide (i = 31) := by decide
  have t2 : ∀ i, i < 32 → (1#32 : B).getLsbD i = decide (i = 0) := by decide
  by_cases h0 : i = 0
  · subst h0
    have : s.getLsbD (1 + (31 - 0)) = false := BitVec.getLsbD_of_ge _ _ (by omega)
    rw [this]
    unfold b01 bit
    cases b <;> simp [top]
  · rw [rev_bit s (i - 1) (by omega), show 31 - (i - 1) = 1 + (31 - i) by omega]
    have h1 : (b01 b).getLsbD i = false := by
      unfold b01; cases b <;> simp [t2 i hi, h0]
    have h2 : (bit b).getLsbD (31 - i) = false := by
      unfold bit; cases b <;> simp [t1 (31 - i) (by omega)]; omega
    rw [h1, h2]
    have : ¬ i < 1 := by omega
    simp [hi, this]
theorem rev_val (s : B) (b : Bool) : (s.reverse.toNat * 2 + (if b = true then 1 else 0)) % 4294967296 = ((s >>> 1) ^^^ bit b).reverse.toNat := by
  rw [← rev_shift]
  have h : s.reverse <<< 1 &&& b01 b = 0#32 := by
    apply BitVec.eq_of_getLsbD_eq
    intro i hi
    have t2 : ∀ i, i < 32 → (1#32 : B).getLsbD i = decide (i = 0) := by decide
    rw [BitVec.getLsbD_and, BitVec.getLsbD_shiftLeft]
    unfold b01
    by_cases h0 : i = 0
    · subst h0; simp
    · cases b <;> simp [t2 i hi, h0]
  rw [← BitVec.add_eq_or_of_and_eq_zero _ _ h, BitVec.toNat_add, BitVec.toNat_shiftLeft, Nat.shiftLeft_eq]
  have h2 : (b01 b).toNat = if b = true then 1 else 0 := by cases b <;> simp [b01]
  rw [h2]
  omega
theorem rev_poly : poly.reverse = 79764919#32 := by decide +kernel
theorem rev_xor (a b : B) : (a ^^^ b).reverse = a.reverse ^^^ b.reverse := by
  apply BitVec.eq_of_getLsbD_eq
  intro i hi
  rw [rev_bit _ i hi, BitVec.getLsbD_xor, BitVec.getLsbD_xor, rev_bit _ i hi, rev_bit _ i hi]
theorem rev_rev (a : B) : a.reverse.reverse = a := by
  apply BitVec.eq_of_getLsbD_eq
  intro i hi
  rw [rev_bit _ i hi, rev_bit _ _ (by omega)]
  congr 1; omega
/-- A step of the document's: the bit out at the top; doubled; the polynomial where it was one. -/
theorem step_no (s : B) (b : Bool) (h : s.getLsbD 0 = false) : (s.reverse.toNat * 2 + (if b = true then 1 else 0)) % 4294967296 = (st s ^^^ bit b).reverse.toNat := by
  rw [rev_val, st_low s h]
theorem step_yes (s : B) (b : Bool) (h : s.getLsbD 0 = true) : Go.bits .xor .u32 (((s.reverse.toNat * 2 + (if b = true then 1 else 0)) % 4294967296 : Nat) : Int) 79764919 = ((st s ^^^ bit b).reverse.toNat : Int) := by
  rw [rev_val]
  have h2 := xor_bv ((s >>> 1) ^^^ bit b).reverse poly.reverse
  rw [show ((poly.reverse.toNat : Nat) : Int) = 79764919 from by rw [rev_poly]; rfl] at h2
  rw [h2, ← rev_xor]
  unfold st
  rw [if_pos h, BitVec.xor_assoc, BitVec.xor_assoc, BitVec.xor_comm poly]
theorem byte_bit (c : B) (k : Nat) : c.toNat / 2 ^ k % 2 = if c.getLsbD k = true then 1 else 0 := by
  rw [BitVec.getLsbD, Nat.testBit_eq_decide_div_mod_eq]
  by_cases h : c.toNat / 2 ^ k % 2 = 1
  · rw [if_pos (by simp [h])]; exact h
  · rw [if_neg (by simp [h])]; omega
theorem neg_bit (c : B) (k : Nat) (hk : k < 8) : (c ^^^ 255#32).getLsbD k = ! c.getLsbD k := by
  have : ∀ k, k < 8 → (255#32 : B).getLsbD k = true := by decide
  rw [BitVec.getLsbD_xor, this k hk]; simp
theorem bit_val (b : Bool) : ((if b = true then 1 else 0 : Nat) : Int) = if b = true then 1 else 0 := by cases b <;> rfl
/-- One bit taken in by the document's sum. -/
theorem ms_val (s c : B) (k : Nat) : ms s c (k + 1) = st (ms s c k) ^^^ bit (c.getLsbD k) := rfl
end Go.Proofs.Ytoeiaimoppmjdaa.Crc
