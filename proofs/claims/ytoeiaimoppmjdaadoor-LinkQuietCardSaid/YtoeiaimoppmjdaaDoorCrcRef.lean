/- The document's own sum, bit by bit from the highest: it is the register's. Plain. -/
import Derived.Test.YtoeiaimoppmjdaaDoorCrc
namespace Go.Proofs.YtoeiaimoppmjdaaDoor.Crc
set_option linter.unusedVariables false
set_option linter.unusedSimpArgs false
def top : B := 2147483648#32
def bit (b : Bool) : B := if b = true then top else 0#32
/-- Bits of c taken in, from the lowest, at the register's far end. -/
def ms (s c : B) : Nat → B
  | 0 => s
  | k + 1 => st (ms s c k) ^^^ bit (c.getLsbD k)
theorem ms_xor (s c : B) (k : Nat) : ms s c k = it k s ^^^ ms 0#32 c k := by
  induction k with
  | zero => simp [ms, it]
  | succ k ih => simp only [ms, it]; rw [ih, st_xor, BitVec.xor_assoc]
theorem ms_zero : ∀ n : Fin 256, ms 0#32 (BitVec.ofNat 32 n.val) 8 = (BitVec.ofNat 32 n.val) <<< 24 := by decide +kernel
theorem ms_byte (s c : B) (h : c.toNat < 256) : ms s c 8 = it 8 s ^^^ (c <<< 24) := by
  rw [ms_xor]
  have := ms_zero ⟨c.toNat, h⟩
  simp only [BitVec.ofNat_toNat, BitVec.setWidth_eq] at this
  rw [this]
theorem it_shl (x : B) (h : x.toNat < 16777216) : it 8 (x <<< 8) = x := by
  have hb : ∀ i, 24 ≤ i → x.getLsbD i = false := fun i hi => by
    rw [BitVec.getLsbD]; exact Nat.testBit_lt_two_pow (Nat.lt_of_lt_of_le (show x.toNat < 2 ^ 24 from h) (Nat.pow_le_pow_right (by omega) hi))
  have key : ∀ k, k ≤ 8 → it k (x <<< 8) = x <<< (8 - k) := by
    intro k hk
    induction k with
    | zero => rfl
    | succ k ih =>
      simp only [it]
      rw [ih (by omega), st_low]
      · apply BitVec.eq_of_getLsbD_eq
        intro i hi
        rw [BitVec.getLsbD_ushiftRight, BitVec.getLsbD_shiftLeft, BitVec.getLsbD_shiftLeft]
        by_cases h1 : i < 8 - (k + 1)
        · have : 1 + i < 8 - k := by omega
          simp [h1, this]; intro _ hh; omega
        · have h2 : ¬ 1 + i < 8 - k := by omega
          have e : 1 + i - (8 - k) = i - (8 - (k + 1)) := by omega
          rw [e]
          by_cases h3 : 1 + i < 32
          · simp [h1, h2, h3, hi]; intro _; omega
          · have : x.getLsbD (i - (8 - (k + 1))) = false := hb _ (by omega)
            have e2 : i - (8 - (k + 1)) = i - (7 - k) := by omega
            rw [e2] at this
            simp [this]
      · rw [BitVec.getLsbD_shiftLeft]
        have : 0 < 8 - k := by omega
        simp [this]
  have := key 8 (by omega)
  rw [this]; simp
/-- The document's register (mirrored), byte by byte. -/
def sb (s c : B) : B := it 8 s ^^^ (c <<< 24)
/-- The byte at place i, 0 behind the end. -/
def at_ (xs : List Int) (i : Nat) : B := BitVec.ofInt 32 (xs.getD i 0)
def neg (i : Nat) (c : B) : B := if i < 4 then c ^^^ 255#32 else c
def S (xs : List Int) : Nat → B
  | 0 => 0#32
  | i + 1 => sb (S xs i) (neg i (at_ xs i))
def W (xs : List Int) (j : Nat) : B := at_ xs j ^^^ (at_ xs (j + 1) ^^^ (at_ xs (j + 2) ^^^ at_ xs (j + 3) <<< 8) <<< 8) <<< 8
theorem xor_lt (a b : B) (n : Nat) (ha : a.toNat < 2 ^ n) (hb : b.toNat < 2 ^ n) : (a ^^^ b).toNat < 2 ^ n := by
  rw [BitVec.toNat_xor]; exact Nat.xor_lt_two_pow ha hb
theorem shl_lt (a : B) (n : Nat) (ha : a.toNat < 2 ^ n) (hn : n ≤ 24) : (a <<< 8).toNat < 2 ^ (n + 8) := by
  rw [BitVec.toNat_shiftLeft, Nat.shiftLeft_eq]
  have : a.toNat * 2 ^ 8 < 2 ^ (n + 8) := by rw [Nat.pow_add]; exact Nat.mul_lt_mul_of_pos_right ha (by omega)
  exact Nat.lt_of_le_of_lt (Nat.mod_le _ _) this
theorem at_lt (xs : List Int) (hv : ∀ a, a ∈ xs → 0 ≤ a ∧ a ≤ 255) (i : Nat) : (at_ xs i).toNat < 2 ^ 8 := by
  unfold at_
  rw [List.getD_eq_getElem?_getD]
  by_cases h : i < xs.length
  · rw [List.getElem?_eq_getElem h]
    have := byte_bv _ (hv _ (List.getElem_mem h))
    have h2 := hv _ (List.getElem_mem h)
    simp only [Option.getD_some]
    omega
  · rw [List.getElem?_eq_none (by omega)]; decide
theorem at_end (xs : List Int) (i : Nat) (h : xs.length ≤ i) : at_ xs i = 0#32 := by
  unfold at_; rw [List.getD_eq_getElem?_getD, List.getElem?_eq_none h]; rfl
theorem shl_shl (x : B) (a b : Nat) : x <<< a <<< b = x <<< (a + b) := (BitVec.shiftLeft_add x a b).symm
theorem W_next (xs : List Int) (hv : ∀ a, a ∈ xs → 0 ≤ a ∧ a ≤ 255) (j : Nat) : it 8 (W xs j) ^^^ (at_ xs (j + 4) <<< 24) = it 8 (at_ xs j) ^^^ W xs (j + 1) := by
  have h1 : (at_ xs (j + 2) ^^^ at_ xs (j + 3) <<< 8).toNat < 2 ^ 16 := xor_lt _ _ 16 (Nat.lt_trans (at_lt xs hv _) (by omega)) (shl_lt _ 8 (at_lt xs hv _) (by omega))
  have h2 : (at_ xs (j + 1) ^^^ (at_ xs (j + 2) ^^^ at_ xs (j + 3) <<< 8) <<< 8).toNat < 2 ^ 24 := xor_lt _ _ 24 (Nat.lt_trans (at_lt xs hv _) (by omega)) (shl_lt _ 16 h1 (by omega))
  unfold W
  rw [it_xor, it_shl _ h2]
  simp only [BitVec.shiftLeft_xor_distrib, shl_shl, BitVec.xor_assoc]
theorem it8_24 (c : B) (hc : c.toNat < 2 ^ 8) : it 8 (c <<< 24) = c <<< 16 := by
  rw [show c <<< 24 = (c <<< 16) <<< 8 from (shl_shl c 16 8).symm]
  exact it_shl _ (by
    have h1 := shl_lt c 8 hc (by omega)
    have h2 := shl_lt (c <<< 8) 16 h1 (by omega)
    rw [shl_shl] at h2; exact h2)
theorem it8_16 (c : B) (hc : c.toNat < 2 ^ 8) : it 8 (c <<< 16) = c <<< 8 := by
  rw [show c <<< 16 = (c <<< 8) <<< 8 from (shl_shl c 8 8).symm]
  exact it_shl _ (Nat.lt_trans (shl_lt c 8 hc (by omega)) (by omega))
theorem it8_8 (c : B) (hc : c.toNat < 2 ^ 8) : it 8 (c <<< 8) = c := it_shl _ (Nat.lt_trans hc (by omega))
theorem it_zero (n : Nat) : it n 0#32 = 0#32 := by
  induction n with
  | zero => rfl
  | succ n ih => simp only [it]; rw [ih]; decide
theorem four (c0 c1 c2 c3 : B) (h0 : c0.toNat < 2 ^ 8) (h1 : c1.toNat < 2 ^ 8) (h2 : c2.toNat < 2 ^ 8) : sb (sb (sb (sb 0#32 c0) c1) c2) c3 = (c0 ^^^ c1 <<< 8 ^^^ c2 <<< 16) ^^^ c3 <<< 24 := by
  have e1 : sb 0#32 c0 = c0 <<< 24 := by unfold sb; rw [it_zero, BitVec.zero_xor]
  have e2 : sb (c0 <<< 24) c1 = c0 <<< 16 ^^^ c1 <<< 24 := by unfold sb; rw [it8_24 c0 h0]
  have e3 : sb (c0 <<< 16 ^^^ c1 <<< 24) c2 = (c0 <<< 8 ^^^ c1 <<< 16) ^^^ c2 <<< 24 := by unfold sb; rw [it_xor, it8_16 c0 h0, it8_24 c1 h1]
  rw [e1, e2, e3]
  unfold sb
  rw [it_xor, it_xor, it8_8 c0 h0, it8_16 c1 h1, it8_24 c2 h2]
theorem ones (a0 a1 a2 a3 : B) : ((a0 ^^^ 255#32) ^^^ (a1 ^^^ 255#32) <<< 8 ^^^ (a2 ^^^ 255#32) <<< 16) ^^^ (a3 ^^^ 255#32) <<< 24 = BitVec.allOnes 32 ^^^ (a0 ^^^ (a1 ^^^ (a2 ^^^ a3 <<< 8) <<< 8) <<< 8) := by
  have hall : BitVec.allOnes 32 = 255#32 ^^^ (255#32 <<< 8) ^^^ (255#32 <<< 16) ^^^ (255#32 <<< 24) := by decide
  rw [hall, BitVec.shiftLeft_xor_distrib a1, BitVec.shiftLeft_xor_distrib a2 (255#32), BitVec.shiftLeft_xor_distrib a3 (255#32), BitVec.shiftLeft_xor_distrib a2, BitVec.shiftLeft_xor_distrib a1, BitVec.shiftLeft_xor_distrib (a2 <<< 8), shl_shl, shl_shl, shl_shl]
  generalize (255#32 : B) <<< 8 = p
  generalize (255#32 : B) <<< 16 = q
  generalize (255#32 : B) <<< 24 = r
  generalize (255#32 : B) = s
  generalize a1 <<< 8 = b1
  generalize a2 <<< (8 + 8) = b2
  generalize a2 <<< 16 = b2
  generalize a3 <<< (8 + 8 + 8) = b3
  generalize a3 <<< 24 = b3
  ac_rfl
theorem S_reg (xs : List Int) (hv : ∀ a, a ∈ xs → 0 ≤ a ∧ a ≤ 255) (j : Nat) (hj : j ≤ xs.length) : S xs (j + 4) = reg (xs.take j) ^^^ W xs j := by
  induction j with
  | zero =>
    have n8 : ∀ i, ((at_ xs i) ^^^ 255#32).toNat < 2 ^ 8 := fun i => xor_lt _ _ 8 (at_lt xs hv i) (by decide)
    show sb (sb (sb (sb 0#32 (at_ xs 0 ^^^ 255#32)) (at_ xs 1 ^^^ 255#32)) (at_ xs 2 ^^^ 255#32)) (at_ xs 3 ^^^ 255#32) = BitVec.allOnes 32 ^^^ W xs 0
    rw [four _ _ _ _ (n8 0) (n8 1) (n8 2)]
    exact ones _ _ _ _
  | succ j ih =>
    have hj' : j < xs.length := by omega
    have htk : reg (xs.take (j + 1)) = it 8 (reg (xs.take j) ^^^ at_ xs j) := by
      unfold reg at_
      rw [List.take_add_one, List.foldl_append, List.getElem?_eq_getElem hj', List.getD_eq_getElem?_getD, List.getElem?_eq_getElem hj']; rfl
    show sb (S xs (j + 4)) (neg (j + 4) (at_ xs (j + 4))) = _
    rw [ih (by omega), htk]
    unfold sb neg
    rw [if_neg (by omega), it_xor, it_xor, BitVec.xor_assoc, W_next xs hv j, ← BitVec.xor_assoc]
theorem S_end (xs : List Int) (hv : ∀ a, a ∈ xs → 0 ≤ a ∧ a ≤ 255) : S xs (xs.length + 4) = reg xs := by
  rw [S_reg xs hv _ (Nat.le_refl _), List.take_length]
  unfold W
  rw [at_end _ _ (Nat.le_refl _), at_end _ _ (by omega), at_end _ _ (by omega), at_end _ _ (by omega)]
  simp
end Go.Proofs.YtoeiaimoppmjdaaDoor.Crc
