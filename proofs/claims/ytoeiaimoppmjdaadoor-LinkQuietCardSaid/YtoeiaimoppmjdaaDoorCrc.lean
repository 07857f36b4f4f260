/- The register of a check sum, over 32 bits: one step, four steps, a byte. -/
import Derived.WalkKit
import Derived.Laws.BitsAllLaws
namespace Go.Proofs.YtoeiaimoppmjdaaDoor.Crc
set_option linter.unusedVariables false
set_option linter.unusedSimpArgs false
abbrev B := BitVec 32
def poly : B := 3988292384#32
def st (s : B) : B := (s >>> 1) ^^^ (if s.getLsbD 0 = true then poly else 0#32)
def it : Nat → B → B
  | 0, s => s
  | n + 1, s => st (it n s)
theorem st_xor (a b : B) : st (a ^^^ b) = st a ^^^ st b := by
  unfold st
  rw [BitVec.getLsbD_xor, BitVec.ushiftRight_xor_distrib]
  cases a.getLsbD 0 <;> cases b.getLsbD 0 <;> simp
  · rw [BitVec.xor_assoc]
  · rw [BitVec.xor_assoc, BitVec.xor_assoc, BitVec.xor_comm (b >>> 1) poly]
  · rw [BitVec.xor_assoc, ← BitVec.xor_assoc poly, BitVec.xor_comm poly (b >>> 1), BitVec.xor_assoc (b >>> 1), BitVec.xor_self, BitVec.xor_zero]
theorem it_xor (n : Nat) (a b : B) : it n (a ^^^ b) = it n a ^^^ it n b := by
  induction n with
  | zero => rfl
  | succ n ih => simp only [it]; rw [ih, st_xor]
theorem it_add (m n : Nat) (s : B) : it (m + n) s = it m (it n s) := by
  induction m with
  | zero => rw [Nat.zero_add]; rfl
  | succ m ih => rw [Nat.succ_add]; simp only [it]; rw [ih]
theorem st_low (s : B) (h : s.getLsbD 0 = false) : st s = s >>> 1 := by
  unfold st; rw [h]; simp
theorem high (s : B) : it 4 (s &&& 4294967280#32) = s >>> 4 := by
  have m : ∀ i, i < 4 → (4294967280#32).getLsbD i = false := by decide
  simp only [it]
  rw [st_low (s &&& 4294967280#32) (by rw [BitVec.getLsbD_and, m 0 (by omega)]; simp)]
  rw [st_low ((s &&& 4294967280#32) >>> 1) (by rw [BitVec.getLsbD_ushiftRight, BitVec.getLsbD_and, m 1 (by omega)]; simp)]
  rw [st_low ((s &&& 4294967280#32) >>> 1 >>> 1) (by rw [BitVec.getLsbD_ushiftRight, BitVec.getLsbD_ushiftRight, BitVec.getLsbD_and, m 2 (by omega)]; simp)]
  rw [st_low ((s &&& 4294967280#32) >>> 1 >>> 1 >>> 1) (by rw [BitVec.getLsbD_ushiftRight, BitVec.getLsbD_ushiftRight, BitVec.getLsbD_ushiftRight, BitVec.getLsbD_and, m 3 (by omega)]; simp)]
  rw [← BitVec.shiftRight_add, ← BitVec.shiftRight_add, ← BitVec.shiftRight_add, BitVec.ushiftRight_and_distrib]
  apply BitVec.eq_of_getLsbD_eq
  intro i hi
  rw [BitVec.getLsbD_and, BitVec.getLsbD_ushiftRight, BitVec.getLsbD_ushiftRight]
  have m2 : ∀ i, i < 28 → (4294967280#32).getLsbD (4 + i) = true := by decide
  by_cases h : i < 28
  · rw [m2 i h]; simp
  · have : s.getLsbD (4 + i) = false := BitVec.getLsbD_of_ge _ _ (by omega)
    simp [this]
theorem split (s : B) : (s &&& 4294967280#32) ^^^ (s &&& 15#32) = s := by
  apply BitVec.eq_of_getLsbD_eq
  intro i hi
  rw [BitVec.getLsbD_xor, BitVec.getLsbD_and, BitVec.getLsbD_and]
  have m : ∀ i, i < 32 → ((4294967280#32).getLsbD i ^^ (15#32).getLsbD i) = true := by decide
  have := m i hi
  cases h1 : (4294967280#32).getLsbD i <;> cases h2 : (15#32).getLsbD i <;> rw [h1, h2] at this <;> simp_all
theorem nib (s : B) : (s >>> 4) ^^^ it 4 (s &&& 15#32) = it 4 s := by
  conv => rhs; rw [← split s]
  rw [it_xor, high]
/-- The value of a register. -/
abbrev val (s : B) : Value := .int .u32 (s.toNat : Int)
theorem xor_bv (a b : B) : Go.bits .xor .u32 (a.toNat : Int) (b.toNat : Int) = ((a ^^^ b).toNat : Int) := by
  rw [u32_xor_nat _ _ a.isLt b.isLt, BitVec.toNat_xor]
theorem and_bv (a b : B) : Go.bits .and .u32 (a.toNat : Int) (b.toNat : Int) = ((a &&& b).toNat : Int) := by
  rw [u32_and_nat _ _ a.isLt b.isLt, BitVec.toNat_and]
theorem shr_bv (a : B) (n : Nat) : ((a.toNat : Int) / ((2 ^ n : Nat) : Int)) = ((a >>> n).toNat : Int) := by
  rw [BitVec.toNat_ushiftRight, Nat.shiftRight_eq_div_pow]; rfl
theorem st_val (s : B) : Go.bits .xor .u32 ((s.toNat : Int) / 2) (Go.bits .and .u32 (-Go.bits .and .u32 (s.toNat : Int) 1 % 4294967296) 3988292384) = ((st s).toNat : Int) := by
  have h1 : Go.bits .and .u32 (s.toNat : Int) 1 = if s.getLsbD 0 = true then 1 else 0 := by
    have := and_bv s 1#32
    rw [show (((1#32 : B).toNat : Nat) : Int) = 1 from rfl] at this
    rw [this, BitVec.toNat_and, show (1#32 : B).toNat = 1 from rfl, Nat.and_one_is_mod]
    rw [BitVec.getLsbD, Nat.testBit_zero]
    rcases Nat.mod_two_eq_zero_or_one s.toNat with h | h <;> simp [h]
  have h2 := shr_bv s 1
  rw [show ((2 ^ 1 : Nat) : Int) = 2 from rfl] at h2
  rw [h1, h2]
  unfold st
  by_cases hl : s.getLsbD 0 = true
  · rw [if_pos hl, if_pos hl]
    have h3 := and_bv (BitVec.allOnes 32) poly
    have h4 := xor_bv (s >>> 1) poly
    rw [show ((BitVec.allOnes 32).toNat : Int) = -1 % 4294967296 from by decide, show ((poly.toNat : Nat) : Int) = 3988292384 from rfl, BitVec.allOnes_and] at h3
    rw [h3]
    exact xor_bv (s >>> 1) poly
  · rw [if_neg hl, if_neg hl]
    have h3 := and_bv 0#32 poly
    rw [show ((0#32 : B).toNat : Int) = -0 % 4294967296 from rfl, show ((poly.toNat : Nat) : Int) = 3988292384 from rfl, BitVec.zero_and] at h3
    rw [h3]
    exact xor_bv (s >>> 1) 0#32
/-- A byte taken in. -/
def eat (s : B) (a : Int) : B := it 4 (it 4 (s ^^^ BitVec.ofInt 32 a))
def reg (xs : List Int) : B := xs.foldl eat (BitVec.allOnes 32)
def crc (xs : List Int) : B := ~~~ reg xs
theorem byte_bv (a : Int) (h : 0 ≤ a ∧ a ≤ 255) : ((BitVec.ofInt 32 a).toNat : Int) = a := by
  obtain ⟨n, rfl⟩ := Int.eq_ofNat_of_zero_le h.1
  rw [BitVec.ofInt_natCast, BitVec.toNat_ofNat]; omega
theorem eat_val (s : B) (a : Int) (h : 0 ≤ a ∧ a ≤ 255) : Go.bits .xor .u32 (s.toNat : Int) a = ((s ^^^ BitVec.ofInt 32 a).toNat : Int) := by
  have := xor_bv s (BitVec.ofInt 32 a)
  rwa [byte_bv a h] at this
theorem not_val (s : B) : Go.bits .xor .u32 IntKind.u32.max (s.toNat : Int) = ((~~~ s).toNat : Int) := by
  have h := xor_bv (BitVec.allOnes 32) s
  rw [BitVec.allOnes_xor] at h
  rw [← h]
  rfl
end Go.Proofs.YtoeiaimoppmjdaaDoor.Crc
