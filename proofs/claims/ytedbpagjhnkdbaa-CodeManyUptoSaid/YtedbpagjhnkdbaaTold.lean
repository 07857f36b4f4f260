/- Plain: bits turned over in a text, and what that does to its sum. -/
import Derived.Test.YtedbpagjhnkdbaaOrder
import Derived.Test.YtedbpagjhnkdbaaMixed
namespace Go.Proofs.Ytedbpagjhnkdbaa.Crc
open Go.RowKit Go.Proofs.Ytedbpagjhnkdbaa.Bytes
set_option linter.unusedVariables false
set_option linter.unusedSimpArgs false
/-- The text with its bit number i turned over. -/
def flip (xs : List Int) (i : Nat) : List Int := xs.set (i / 8) (Go.bits .xor .u8 (xs.getD (i / 8) 0) (2 ^ (i % 8) % 256))
theorem flip_length (xs : List Int) (i : Nat) : (flip xs i).length = xs.length := by simp [flip]
theorem mask_byte (m : Nat) (h : m < 8) : (0 : Int) ≤ 2 ^ m % 256 ∧ (2 : Int) ^ m % 256 ≤ 255 := by omega
theorem mask_bv : ∀ m, m < 8 → BitVec.ofInt 32 (2 ^ m % 256) = 1#32 <<< m := by decide
theorem it_mask : ∀ m, m < 32 → it m (1#32 <<< m) = 1#32 := by decide +kernel
theorem flip_byt {xs : List Int} (h : Byt xs) (i : Nat) : Byt (flip xs i) := by
  intro a ha
  rcases List.mem_or_eq_of_mem_set ha with h1 | h1
  · exact h a h1
  · rw [h1]; exact ⟨bits_lo_u8 _ _ _, bits_hi_u8 _ _ _⟩
theorem eat_xor (r s : B) (a : Int) : eat (r ^^^ s) a = eat r a ^^^ it 8 s := by
  unfold eat
  rw [show (r ^^^ s) ^^^ BitVec.ofInt 32 a = (r ^^^ BitVec.ofInt 32 a) ^^^ s by generalize BitVec.ofInt 32 a = p; ac_rfl]
  rw [it_xor, it_xor, ← it_add 4 4 s]
theorem fold_xor (t : List Int) (r s : B) : t.foldl eat (r ^^^ s) = t.foldl eat r ^^^ it (8 * t.length) s := by
  induction t generalizing r s with
  | nil => rfl
  | cons a t ih =>
    simp only [List.foldl_cons, List.length_cons]
    rw [eat_xor, ih, ← it_add, Nat.mul_succ]
theorem reg_flip (xs : List Int) (hv : Byt xs) (i : Nat) (hi : i < 8 * xs.length) : reg (flip xs i) = reg xs ^^^ it (8 * xs.length - i) 1#32 := by
  obtain ⟨j, hj⟩ : ∃ j, j = i / 8 := ⟨_, rfl⟩
  obtain ⟨m, hm⟩ : ∃ m, m = i % 8 := ⟨_, rfl⟩
  have hjl : j < xs.length := by omega
  unfold flip reg
  rw [← hj, ← hm]
  have hg : xs.getD j 0 = xs[j] := by rw [List.getD_eq_getElem?_getD, List.getElem?_eq_getElem hjl]; rfl
  rw [hg]
  have hb := hv xs[j] (List.getElem_mem hjl)
  have hx : xs = xs.take j ++ xs[j] :: xs.drop (j + 1) := by rw [← List.drop_eq_getElem_cons hjl, List.take_append_drop]
  have hs : ∀ y, xs.set j y = xs.take j ++ y :: xs.drop (j + 1) := by
    intro y
    conv => lhs; rw [hx]
    rw [List.set_append_right _ _ (by simp; omega)]
    have : (xs.take j).length = j := by simp; omega
    rw [this, Nat.sub_self]
    rfl
  rw [hs]
  conv => rhs; lhs; rw [hx]
  rw [List.foldl_append, List.foldl_append, List.foldl_cons, List.foldl_cons]
  generalize (xs.take j).foldl eat (BitVec.allOnes 32) = r
  have he : eat r (Go.bits .xor .u8 xs[j] (2 ^ m % 256)) = eat r xs[j] ^^^ it 8 (1#32 <<< m) := by
    unfold eat
    rw [xor8 _ _ hb (mask_byte m (by omega)), mask_bv m (by omega), ← BitVec.xor_assoc, it_xor, it_xor, ← it_add 4 4 (1#32 <<< m)]
  rw [he, fold_xor]
  congr 1
  have h8 : it 8 (1#32 <<< m) = it (8 - m) 1#32 := by
    conv => lhs; rw [show 8 = (8 - m) + m by omega]
    rw [it_add, it_mask m (by omega)]
  rw [h8, ← it_add]
  congr 1
  simp
  omega
theorem crc_ne {xs ys : List Int} (h : reg ys ≠ reg xs) : ¬ ((crc ys).toNat : Int) = ((crc xs).toNat : Int) := by
  intro e
  apply h
  have e1 : (crc ys).toNat = (crc xs).toNat := by omega
  have e2 : crc ys = crc xs := BitVec.eq_of_toNat_eq e1
  unfold crc at e2
  exact BitVec.not_inj.1 e2
theorem crc_eq {xs ys : List Int} (h : reg ys = reg xs) : ((crc ys).toNat : Int) = ((crc xs).toNat : Int) := by unfold crc; rw [h]
theorem one_ne (n : Nat) : it n 1#32 ≠ 0#32 := fun h => absurd (it_inj0 n _ h) (by decide)
theorem xor_ne {r d : B} (h : d ≠ 0#32) : r ^^^ d ≠ r := by
  intro e
  apply h
  have h2 : r ^^^ (r ^^^ d) = r ^^^ r := by rw [e]
  rwa [← BitVec.xor_assoc, BitVec.xor_self, BitVec.zero_xor] at h2
theorem flip_one (xs : List Int) (hv : Byt xs) (i : Nat) (hi : i < 8 * xs.length) : ¬ ((crc (flip xs i)).toNat : Int) = ((crc xs).toNat : Int) :=
  crc_ne (by rw [reg_flip xs hv i hi]; exact xor_ne (one_ne _))
theorem flip_two (xs : List Int) (hv : Byt xs) (i j : Nat) (hi : i < 8 * xs.length) (hj : j < 8 * xs.length) (hl : xs.length ≤ 1048576) : ((crc (flip (flip xs i) j)).toNat : Int) = ((crc xs).toNat : Int) ↔ i = j := by
  have h1 := reg_flip xs hv i hi
  have h2 := reg_flip (flip xs i) (flip_byt hv i) j (by rw [flip_length]; exact hj)
  rw [flip_length, h1, BitVec.xor_assoc] at h2
  constructor
  · intro e
    rcases Decidable.em (i = j) with h | h
    · exact h
    · exfalso
      refine crc_ne ?_ e
      rw [h2]
      refine xor_ne fun h0 => h ?_
      have := two_powers (a := 8 * xs.length - i) (b := 8 * xs.length - j) (by omega) (by omega) (xor_eq_zero h0)
      omega
  · rintro rfl
    refine crc_eq ?_
    rw [h2, BitVec.xor_self, BitVec.xor_zero]
/-- What a burst has done to the register, k bits in. -/
def Burst (xs : List Int) (at_ k : Nat) (ys : List Int) (any : Bool) : Prop :=
  ∃ V : B, reg ys = reg xs ^^^ it (8 * xs.length - at_) V ∧ (∀ j, k ≤ j → V.getLsbD j = false) ∧ (any = true ↔ V ≠ 0#32)
theorem burst_nil (xs : List Int) (at_ : Nat) : Burst xs at_ 0 xs false := by
  refine ⟨0#32, ?_, by simp, by simp⟩
  have : it (8 * xs.length - at_) 0#32 = 0#32 := by
    generalize 8 * xs.length - at_ = n
    induction n with
    | zero => rfl
    | succ n ih => simp only [it]; rw [ih]; rfl
  rw [this, BitVec.xor_zero]
theorem burst_skip {xs ys : List Int} {at_ k : Nat} {any : Bool} (h : Burst xs at_ k ys any) : Burst xs at_ (k + 1) ys any :=
  let ⟨V, h1, h2, h3⟩ := h
  ⟨V, h1, fun j hj => h2 j (by omega), h3⟩
theorem burst_bit {xs ys : List Int} {at_ k : Nat} {any : Bool} (h : Burst xs at_ k ys any) (hv : Byt ys) (hl : ys.length = xs.length) (hk : k < 32) (ha : at_ + k < 8 * xs.length) : Burst xs at_ (k + 1) (flip ys (at_ + k)) true := by
  obtain ⟨V, h1, h2, h3⟩ := h
  refine ⟨V ^^^ (1#32 <<< k), ?_, ?_, ?_⟩
  · rw [reg_flip ys hv (at_ + k) (by omega), h1, hl, it_xor, BitVec.xor_assoc]
    congr 2
    conv => rhs; rw [show 8 * xs.length - at_ = (8 * xs.length - (at_ + k)) + k by omega]
    rw [it_add, it_mask k hk]
  · intro j hj
    rw [BitVec.getLsbD_xor, h2 j (by omega), BitVec.getLsbD_shiftLeft]
    have : (1#32).getLsbD (j - k) = false := by
      rw [BitVec.getLsbD_one]
      simp
      omega
    rw [this]; simp
  · refine ⟨fun _ h0 => ?_, fun _ => rfl⟩
    have hb : (V ^^^ (1#32 <<< k)).getLsbD k = false := by rw [h0]; simp
    rw [BitVec.getLsbD_xor, h2 k (Nat.le_refl _), BitVec.getLsbD_shiftLeft] at hb
    simp [hk] at hb
theorem burst_told {xs ys : List Int} {at_ k : Nat} (h : Burst xs at_ k ys true) : ¬ ((crc ys).toNat : Int) = ((crc xs).toNat : Int) := by
  obtain ⟨V, h1, h2, h3⟩ := h
  refine crc_ne ?_
  rw [h1]
  exact xor_ne fun h0 => h3.1 rfl (it_inj0 _ _ h0)
theorem burst_none {xs ys : List Int} {at_ k : Nat} (h : Burst xs at_ k ys false) : ((crc ys).toNat : Int) = ((crc xs).toNat : Int) := by
  obtain ⟨V, h1, h2, h3⟩ := h
  refine crc_eq ?_
  rcases Decidable.em (V = 0#32) with h0 | h0
  · subst h0
    have : it (8 * xs.length - at_) 0#32 = 0#32 := by
      generalize 8 * xs.length - at_ = n
      induction n with
      | zero => rfl
      | succ n ih => simp only [it]; rw [ih]; rfl
    rw [h1, this, BitVec.xor_zero]
  · exact absurd (h3.2 h0) (by simp)
end Go.Proofs.Ytedbpagjhnkdbaa.Crc
