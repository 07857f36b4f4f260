/- Contracts: numbers of fixed size, written and by the reference. -/
import Derived.Test.YtoeiaimoppmjdaaDoorWriters
import Derived.Test.YtoeiaimoppmjdaaDoorEq
namespace Go.Proofs.YtoeiaimoppmjdaaDoor.Wr
open Go.RowKit Go.Proofs.YtoeiaimoppmjdaaDoorW.PrintWords Go.Proofs.YtoeiaimoppmjdaaDoor.Bytes
set_option linter.unusedVariables false
set_option linter.unusedSimpArgs false
theorem sh (n k : Nat) : ((n : Int) / 2 ^ (8 * k)) % 256 = ((n / 256 ^ k % 256 : Nat) : Int) := by
  have : (256 : Nat) ^ k = 2 ^ (8 * k) := by rw [show (256 : Nat) = 2 ^ 8 from rfl, ← Nat.pow_mul]
  rw [this]; simp
theorem fixL_step (n size j : Nat) (h : j < size) : (List.replicate (j + 1) (0 : Int) ++ (fixL n size).drop (j + 1)).set j ((n / 256 ^ (size - (j + 1)) % 256 : Nat) : Int) = List.replicate j 0 ++ (fixL n size).drop j := by
  have hl : j < (fixL n size).length := by rw [fixL_length]; exact h
  have hd : (fixL n size).drop j = (fixL n size)[j] :: (fixL n size).drop (j + 1) := List.drop_eq_getElem_cons hl
  have hg : (fixL n size)[j] = ((n / 256 ^ (size - (j + 1)) % 256 : Nat) : Int) := by
    have := fixL_get n size j h
    rw [List.getD_eq_getElem?_getD, List.getElem?_eq_getElem hl] at this
    rw [show size - (j + 1) = size - 1 - j by omega]
    exact this
  rw [hd, hg, List.replicate_succ', List.append_assoc, List.set_append_right _ _ (by simp), List.length_replicate, Nat.sub_self]
  rfl
set_option maxRecDepth 20000 in
set_option maxHeartbeats 1600000 in
theorem rfixed_calls (n size : Nat) (w : World) (base : Nat) (hbase : base ≤ w.heap.size) (hn : n < 18446744073709551616) (hs : size ≤ 8) :
    Calls Tryd.prog 108 #[.int .u64 n, .int .i64 size] w fun e w' => ∃ v, e = .returned v ∧ w'.ownsRow base 5 1 v size (encs I (fixL n size)) ∧ Below base w w' := by
  have HBS := Lib.hid hbase
  have HN := Lib.hid hn
  have hmk := print_make_of (P := Tryd.prog) 22 5 (.int .u8 0) 1 Tryd.underlying22 info5 rfl (by omega) size (by omega)
  have HO := Lib.hid (own_made_of (enc := I) (d := (0 : Int)) w base 5 size hbase (by omega))
  clear hbase hn
  go_enter Tryd.func108, Tryd.ntmps108
  go_wp2_with fail
  go_loopw [0, 6] (fun m i wr => ∃ k : Nat, i = .int .i64 ((k : Int) - 1) ∧ k ≤ size ∧ m = .int .u64 ((n / 256 ^ (size - k) : Nat) : Int) ∧ wr.ownsRow base 5 1 (.slice (some ⟨w.heap.size, 0, none⟩) size size) size (encs I (List.replicate k 0 ++ (fixL n size).drop k)) ∧ Below base w wr) (fun _ i _ => (intOf i + 1).toNat)
  case atStart => exact ⟨size, rfl, by omega, by simp, by rw [List.drop_eq_nil_of_le (by rw [fixL_length]; exact Nat.le_refl _), List.append_nil]; exact HO.out, (Below.refl _ _).alloc HBS.out _⟩
  case round =>
    obtain ⟨k, rfl, hk, rfl, ho, hb⟩ := hrel
    have HOK := Lib.hid ho
    have HB := Lib.hid hb
    clear ho hb
    cases k with
    | zero =>
      have e0 : (((0 : Nat) : Int) - 1) = -1 := rfl
      rw [e0]
      go_wp2_with fail
      go_ret
      exact ⟨_, rfl, by simpa using HOK.out, HB.out⟩
    | succ j =>
      have e0 : (((j + 1 : Nat) : Int) - 1) = (j : Int) := by omega
      rw [e0]
      have hl2 : (List.replicate (j + 1) (0 : Int) ++ (fixL n size).drop (j + 1)).length = size := by simp [fixL_length]; omega
      have hat := own_at_of (d := 0) HOK.out (j : Int) (by omega) (by omega)
      rw [Int.toNat_natCast] at hat
      have f2 := hat.2
      have hst := own_store_of HOK.out (j : Int) ((n / 256 ^ (size - (j + 1)) % 256 : Nat) : Int)
      rw [Int.toNat_natCast, fixL_step n size j (by omega)] at hst
      obtain ⟨m, hm⟩ : ∃ m, m = n / 256 ^ (size - (j + 1)) := ⟨_, rfl⟩
      have hm2 : m / 256 = n / 256 ^ (size - j) := by
        rw [hm, Nat.div_div_eq_div_mul, ← Nat.pow_succ, show (size - (j + 1)).succ = size - j by omega]
      have hmb : (m : Int) ≤ 18446744073709551615 := by
        have := HN.out
        have := Nat.div_le_self n (256 ^ (size - (j + 1)))
        omega
      rw [← hm] at hst ⊢
      have HST := Lib.hid hst
      have HM := Lib.hid hm2
      have i1 : (0 : Int) ≤ (j : Int) := by omega
      have i2 : (j : Int) < (size : Int) := by omega
      have c1 := hat.1
      clear hat hst hm hm2 hl2
      go_wp2_with fail
      exact ⟨⟨j, rfl, by omega, by rw [← HM.out]; rfl, HST.out.1, HB.out.grown HST.out.2 (Nat.le_trans HBS.out HB.out.size) (own_base HOK.out)⟩, by simp [intOf]⟩
end Go.Proofs.YtoeiaimoppmjdaaDoor.Wr
