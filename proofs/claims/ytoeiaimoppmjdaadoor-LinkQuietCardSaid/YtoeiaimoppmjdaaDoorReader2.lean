/- Contracts: numbers of fixed size, read. -/
import Derived.Test.YtoeiaimoppmjdaaDoorReader
namespace Go.Proofs.YtoeiaimoppmjdaaDoor.Wr
open Go.RowKit Go.Proofs.YtoeiaimoppmjdaaDoorW.PrintWords Go.Proofs.YtoeiaimoppmjdaaDoor.Bytes
set_option linter.unusedVariables false
set_option linter.unusedSimpArgs false
set_option maxRecDepth 4000 in
theorem or_low (m c : Nat) (hc : c < 256) (hm : m * 256 + c < 18446744073709551616) : Go.bits .or .u64 ((m : Int) * 256) (c : Int) = ((m * 256 + c : Nat) : Int) := by
  have h := u64_or_nat (m * 256) c (Nat.lt_of_le_of_lt (Nat.le_add_right _ _) hm) (Nat.lt_of_le_of_lt (Nat.le_add_left _ _) hm)
  rw [show ((m * 256 : Nat) : Int) = (m : Int) * 256 by simp] at h
  rw [h]
  have h2 := Nat.two_pow_add_eq_or_of_lt (i := 8) (b := c) (by simpa using hc) m
  rw [show (2 : Nat) ^ 8 = 256 from rfl, Nat.mul_comm 256 m] at h2
  rw [h2]
set_option maxRecDepth 20000 in
set_option maxHeartbeats 1600000 in
theorem rdfixed_calls (W : World) (base g : Nat) (v : Value) (xs : List Int) (a size i : Nat) (h : Rdr W base g v xs a 0) (hb : base ≤ W.heap.size) (hn : a + size ≤ xs.length) (hs : size ≤ 8) (hi : i < 18446744073709551616) (hi2 : i / 256 ^ size = 0)
    (hx : (xs.drop a).take size = fixL i size) :
    Calls Tryd.prog 75 #[.pointer (some ⟨g, 0, none⟩), .int .i64 size] W fun e w' => e = .returned (.int .u64 i) ∧ Rdr w' base g v xs ((a + size : Nat) : Int) 0 ∧ Below base W w' ∧ KeepBut W w' g none := by
  have CN := Lib.hid (next_calls W base g v xs a size h hb hn)
  have HI := Lib.hid hi
  have HI2 := Lib.hid hi2
  have HX := Lib.hid hx
  have HBS := Lib.hid hb
  have s1 : (size : Int) ≤ 8 := by omega
  clear h hb hn hi hi2 hx
  go_enter Tryd.func75, Tryd.ntmps75
  go_wp2_with fail
  refine CN.out.mono ?_; rintro e w1 ⟨A2, c2, rfl, hr2, h2, hb2, hk2⟩
  rw [HX.out] at hr2
  have HR2 := Lib.hid hr2
  have H2 := Lib.hid h2
  have HB2 := Lib.hid hb2
  have HK2 := Lib.hid hk2
  clear hr2 h2 hb2 hk2
  go_wp2_with fail
  go_loopw [5, 12] (fun m j wr => ∃ k : Nat, m = .int .u64 ((i / 256 ^ (size - k) : Nat) : Int) ∧ j = .int .i64 k ∧ k ≤ size ∧ Below w1.heap.size w1 wr) (fun _ j _ => size - (intOf j).toNat)
  case atStart => exact ⟨0, by have := HI2.out; simp only [Nat.sub_zero]; rw [this]; rfl, rfl, by omega, Below.refl _ _⟩
  case round =>
    obtain ⟨k, rfl, rfl, hk, hb3⟩ := hrel
    have HB3 := Lib.hid hb3
    clear hb3
    by_cases hlt : k < size
    · have hrr := HR2.out
      have hfl := fixL_length i size
      obtain ⟨ad, hA, hc⟩ := hrr.2.2 (by omega)
      subst hA
      obtain ⟨m0, hm0⟩ : ∃ m, m = i / 256 ^ (size - k) := ⟨_, rfl⟩
      obtain ⟨cc, hcc⟩ : ∃ m, m = i / 256 ^ (size - 1 - k) % 256 := ⟨_, rfl⟩
      have hm1 : m0 * 256 + cc = i / 256 ^ (size - (k + 1)) := by
        have e1 : size - k = (size - 1 - k) + 1 := by omega
        rw [hm0, hcc, e1, Nat.pow_succ, ← Nat.div_div_eq_div_mul, show size - (k + 1) = size - 1 - k by omega]
        omega
      have hml : m0 * 256 + cc < 18446744073709551616 := by
        rw [hm1]; have := HI.out; exact Nat.lt_of_le_of_lt (Nat.div_le_self _ _) this
      have x1 := pw_cell_below HB3.out (hc k (by omega))
      rw [fixL_get i size k hlt, ← hcc] at x1
      obtain ⟨m1, hmm1⟩ : ∃ m1, m1 = m0 * 256 + cc := ⟨_, rfl⟩
      have qo : Go.bits .or .u64 ((m0 : Int) * 256) (cc : Int) = (m1 : Int) := by rw [hmm1]; exact or_low m0 cc (by omega) hml
      have HM : Hid (m1 = i / 256 ^ (size - (k + 1))) := hmm1.trans hm1
      rw [← hm0]
      have i1 : (k : Int) < (size : Int) := by omega
      have i2 : (0 : Int) ≤ (k : Int) := by omega
      have i3 : (m0 : Int) * 256 ≤ 18446744073709551615 := by omega
      have cb : (cc : Int) ≤ 255 := by omega
      clear hm0 hcc hm1 hml hmm1 hrr hfl hc
      go_wp2_with fail
      exact ⟨⟨k + 1, by rw [HM.out], by go_num, by omega, HB3.out⟩, by simp [intOf]; omega⟩
    · have e0 : i / 256 ^ (size - k) = i := by rw [show size - k = 0 by omega]; simp
      rw [e0]
      have i1 : ¬ (k : Int) < (size : Int) := by omega
      have H3 := Lib.hid (rdr_below H2.out HB3.out)
      clear e0
      go_wp2_with fail
      go_ret
      exact ⟨rfl, H3.out, HB2.out.trans (HB3.out.mono (Nat.le_trans HBS.out HB2.out.size)), HK2.out.trans (KeepBut.of_below HB3.out g none) (.inl rfl)⟩
theorem rdu32_calls (W : World) (base g : Nat) (v : Value) (xs : List Int) (a i : Nat) (h : Rdr W base g v xs a 0) (hb : base ≤ W.heap.size) (hn : a + 4 ≤ xs.length) (hi : i < 4294967296) (hx : (xs.drop a).take 4 = fixL i 4) :
    Calls Tryd.prog 66 #[.pointer (some ⟨g, 0, none⟩)] W fun e w' => e = .returned (.int .u32 i) ∧ Rdr w' base g v xs ((a + 4 : Nat) : Int) 0 ∧ Below base W w' ∧ KeepBut W w' g none := by
  have HC := Lib.hid (rdfixed_calls W base g v xs a 4 i h hb hn (by omega) (by omega) (by omega) hx)
  have i1 : (i : Int) < 4294967296 := by omega
  clear h
  go_enter Tryd.func66, Tryd.ntmps66
  go_wp2_with fail
  refine HC.out.mono ?_; rintro e w1 ⟨rfl, h1, hb1, hk1⟩
  have H1 := Lib.hid h1
  have HB1 := Lib.hid hb1
  have HK1 := Lib.hid hk1
  clear h1 hb1 hk1
  go_wp2_with fail
  go_ret
  exact ⟨rfl, H1.out, HB1.out, HK1.out⟩
end Go.Proofs.YtoeiaimoppmjdaaDoor.Wr
