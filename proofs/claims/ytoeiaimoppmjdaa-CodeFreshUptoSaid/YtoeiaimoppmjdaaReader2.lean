/- Contracts: numbers of fixed size, read. -/
import Derived.Test.YtoeiaimoppmjdaaReader
namespace Go.Proofs.Ytoeiaimoppmjdaa.Wr
open Go.RowKit Go.Proofs.YtoeiaimoppmjdaaW.PrintWords Go.Proofs.Ytoeiaimoppmjdaa.Bytes
set_option linter.unusedVariables false
set_option linter.unusedSimpArgs false
set_option maxRecDepth 4000 in
theorem or_low (m c : Nat) (hc : c < 256) (hm : m * 256 + c < 18446744073709551616) : Go.bits .or .u64 ((m : Int) * 256) (c : Int) = ((m * 256 + c : Nat) : Int) := by
  have h := u64_or_nat (m * 256) c (Nat.lt_of_le_of_lt (Nat.le_add_right _ _) hm) (Nat.lt_of_le_of_lt (Nat.le_add_left _ _) hm)
  rw [show ((m * 256 : Nat) : Int) = (m : Int) * 256 by simp] at h
  rw [h]
  have h2 := Nat.two_pow_add_eq_or_of_lt (i := 8) (b := c) (by simpa using hc) m
  rw [show (2 : Nat) ^ 8 = 256 from rfl, Nat.mul_comm 256 m] at h2
  rw [h2]
end Go.Proofs.Ytoeiaimoppmjdaa.Wr
