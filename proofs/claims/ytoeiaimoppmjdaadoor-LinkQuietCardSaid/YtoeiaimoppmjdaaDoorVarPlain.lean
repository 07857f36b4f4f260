/- Plain: numbers in bytes: of fixed size, in their shortest form. -/
import Derived.Test.YtoeiaimoppmjdaaDoorInto
namespace Go.Proofs.YtoeiaimoppmjdaaDoor.Wr
open Go.RowKit Go.Proofs.YtoeiaimoppmjdaaDoor.Bytes
set_option linter.unusedVariables false
set_option linter.unusedSimpArgs false
/-- A number in size bytes, the highest first. -/
def fixL (n size : Nat) : List Int := (List.range size).map fun i => ((n / 256 ^ (size - 1 - i) % 256 : Nat) : Int)
theorem fixL_length (n size : Nat) : (fixL n size).length = size := by simp [fixL]
theorem fixL_get (n size i : Nat) (h : i < size) : (fixL n size).getD i 0 = ((n / 256 ^ (size - 1 - i) % 256 : Nat) : Int) := by
  simp [fixL, List.getD_eq_getElem?_getD, h]
theorem fixL_byt (n size : Nat) : Byt (fixL n size) := by
  intro a ha
  simp only [fixL, List.mem_map] at ha
  obtain ⟨i, _, rfl⟩ := ha
  omega
theorem take_getD (xs : List Int) (k : Nat) (h : k < xs.length) : xs.take (k + 1) = xs.take k ++ [xs.getD k 0] := by
  rw [List.take_succ_eq_append_getElem h, List.getD_eq_getElem?_getD, List.getElem?_eq_getElem h]
  rfl
/-- A number in its shortest form. -/
def vr (n : Nat) : List Int := if h : n < 128 then [(n : Int)] else ((128 + n % 128 : Nat) : Int) :: vr (n / 128)
termination_by n
decreasing_by omega
theorem vr_small {n : Nat} (h : n < 128) : vr n = [(n : Int)] := by rw [vr]; simp [h]
theorem vr_great {n : Nat} (h : ¬ n < 128) : vr n = ((128 + n % 128 : Nat) : Int) :: vr (n / 128) := by rw [vr]; simp [h]
theorem vr_byt (n : Nat) : Byt (vr n) := by
  induction n using Nat.strongRecOn with
  | _ n ih =>
    by_cases h : n < 128
    · rw [vr_small h]; intro a ha; simp at ha; omega
    · rw [vr_great h]
      intro a ha
      rcases List.mem_cons.1 ha with rfl | ha
      · omega
      · exact ih (n / 128) (by omega) a ha
theorem vr_length (n k : Nat) (h : n < 128 ^ (k + 1)) : (vr n).length ≤ k + 1 := by
  induction k generalizing n with
  | zero => rw [vr_small (by simpa using h)]; simp
  | succ k ih =>
    by_cases h1 : n < 128
    · rw [vr_small h1]; simp
    · rw [vr_great h1]
      have := ih (n / 128) (by rw [Nat.pow_succ] at h; omega)
      simp; omega
theorem vr_pos (n : Nat) : 0 < (vr n).length := by
  by_cases h : n < 128
  · rw [vr_small h]; simp
  · rw [vr_great h]; simp
/-- Its first k bytes. -/
def digs (n : Nat) : Nat → List Int
  | 0 => []
  | k + 1 => digs n k ++ [((128 + n / 128 ^ k % 128 : Nat) : Int)]
theorem vr_digs (n k : Nat) (h : k = 0 ∨ 128 ^ k ≤ n) : vr n = digs n k ++ vr (n / 128 ^ k) := by
  induction k with
  | zero => simp [digs]
  | succ k ih =>
    have h1 : 128 ^ (k + 1) ≤ n := by simpa using h
    have hp : 0 < 128 ^ k := Nat.pow_pos (by omega)
    rw [ih (.inr (by rw [Nat.pow_succ] at h1; omega))]
    have h2 : ¬ n / 128 ^ k < 128 := by
      rw [Nat.div_lt_iff_lt_mul hp, Nat.mul_comm, ← Nat.pow_succ]; omega
    rw [vr_great h2, digs, List.append_assoc, Nat.div_div_eq_div_mul, ← Nat.pow_succ]
    rfl
/-- How many rounds there are, off the number of bits. -/
theorem rounds (n b : Nat) (h1 : n < 2 ^ b) (h2 : 0 < b → 2 ^ (b - 1) ≤ n) : ((max 1 b - 1) / 7 = 0 ∨ 128 ^ ((max 1 b - 1) / 7) ≤ n) ∧ n / 128 ^ ((max 1 b - 1) / 7) < 128 := by
  obtain ⟨K, hK⟩ : ∃ K, K = (max 1 b - 1) / 7 := ⟨_, rfl⟩
  rw [← hK]
  have e : ∀ k, 128 ^ k = 2 ^ (7 * k) := fun k => by rw [Nat.pow_mul]
  have hlt : n < 2 ^ (7 * K + 7) := Nat.lt_of_lt_of_le h1 (Nat.pow_le_pow_right (by omega) (by omega))
  constructor
  · by_cases h0 : K = 0
    · exact .inl h0
    · right
      rw [e]
      exact Nat.le_trans (Nat.pow_le_pow_right (by omega) (by omega)) (h2 (by omega))
  · rw [Nat.div_lt_iff_lt_mul (Nat.pow_pos (by omega)), e, show (128 : Nat) = 2 ^ 7 from rfl, ← Nat.pow_add]
    rwa [Nat.add_comm] at hlt
theorem or_128 : ∀ r : Nat, r < 256 → Go.bits .or .u8 (r : Int) 128 = ((128 + r % 128 : Nat) : Int) := by decide +kernel
end Go.Proofs.YtoeiaimoppmjdaaDoor.Wr
