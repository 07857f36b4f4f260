/- tillref1.Sum: what it computes. -/
import Derived.Test.YtoeiaimoppmjdaaDoorSumWalk
import Derived.Test.YtoeiaimoppmjdaaDoorCrcRef
import Derived.Deep.RegionHeld3
namespace Go.Proofs.YtoeiaimoppmjdaaDoor.Crc
open Go.RowKit
set_option linter.unusedVariables false
set_option linter.unusedSimpArgs false
theorem rev_bit (s : B) (i : Nat) (h : i < 32) : s.reverse.getLsbD i = s.getLsbD (31 - i) := by
  rw [BitVec.getLsbD_reverse, BitVec.getMsbD]; simp [h]
theorem rev_top (s : B) : s.reverse.toNat / 2147483648 = if s.getLsbD 0 = true then 1 else 0 := by
  have h := rev_bit s 31 (by omega)
  rw [BitVec.getLsbD, Nat.testBit_eq_decide_div_mod_eq] at h
  have hl := s.reverse.isLt
  rw [show (31 - 31 : Nat) = 0 from rfl] at h
  rw [← h]
  by_cases h2 : s.reverse.toNat / 2 ^ 31 % 2 = 1
  · rw [if_pos (by simp [h2])]; omega
  · rw [if_neg (by simp [h2])]; omega
def b01 (b : Bool) : B := if b = true then 1#32 else 0#32
theorem rev_shift (s : B) (b : Bool) : (s.reverse <<< 1) ||| b01 b = ((s >>> 1) ^^^ bit b).reverse := by
  apply BitVec.eq_of_getLsbD_eq
  intro i hi
  rw [rev_bit _ i hi, BitVec.getLsbD_or, BitVec.getLsbD_xor, BitVec.getLsbD_shiftLeft, BitVec.getLsbD_ushiftRight]
  have t1 : ∀ i, i < 32 → top.getLsbD i = decide (i = 31) := by decide
  have t2 : ∀ i, i < 32 → (1#32 : B).getLsbD i = decide (i = 0) := by decide
  by_cases h0 : i = 0
  · subst h0
    have : s.getLsbD (1 + (31 - 0)) = false := BitVec.getLsbD_of_ge _ _ (by omega)
    rw [this]
    unfold b01 bit
    cases b <;> simp [top]
  · rw [rev_bit s (i - 1) (by omega), show 31 - (i - 1) = 1 + (31 - i) by omega]
    have h1 : (b01 b).getLsbD i = false := by
      unfold b01; cases b <;> simp [t2 i hi, h0]
    have h2 : (bit b).getLsbD (31 - i) = false := by
      unfold bit; cases b <;> simp [t1 (31 - i) (by omega)]; omega
    rw [h1, h2]
    have : ¬ i < 1 := by omega
    simp [hi, this]
theorem rev_val (s : B) (b : Bool) : (s.reverse.toNat * 2 + (if b = true then 1 else 0)) % 4294967296 = ((s >>> 1) ^^^ bit b).reverse.toNat := by
  rw [← rev_shift]
  have h : s.reverse <<< 1 &&& b01 b = 0#32 := by
    apply BitVec.eq_of_getLsbD_eq
    intro i hi
    have t2 : ∀ i, i < 32 → (1#32 : B).getLsbD i = decide (i = 0) := by decide
    rw [BitVec.getLsbD_and, BitVec.getLsbD_shiftLeft]
    unfold b01
    by_cases h0 : i = 0
    · subst h0; simp
    · cases b <;> simp [t2 i hi, h0]
  rw [← BitVec.add_eq_or_of_and_eq_zero _ _ h, BitVec.toNat_add, BitVec.toNat_shiftLeft, Nat.shiftLeft_eq]
  have h2 : (b01 b).toNat = if b = true then 1 else 0 := by cases b <;> simp [b01]
  rw [h2]
  omega
theorem rev_poly : poly.reverse = 79764919#32 := by decide +kernel
theorem rev_xor (a b : B) : (a ^^^ b).reverse = a.reverse ^^^ b.reverse := by
  apply BitVec.eq_of_getLsbD_eq
  intro i hi
  rw [rev_bit _ i hi, BitVec.getLsbD_xor, BitVec.getLsbD_xor, rev_bit _ i hi, rev_bit _ i hi]
theorem rev_rev (a : B) : a.reverse.reverse = a := by
  apply BitVec.eq_of_getLsbD_eq
  intro i hi
  rw [rev_bit _ i hi, rev_bit _ _ (by omega)]
  congr 1; omega
/-- A step of the document's: the bit out at the top; doubled; the polynomial where it was one. -/
theorem step_no (s : B) (b : Bool) (h : s.getLsbD 0 = false) : (s.reverse.toNat * 2 + (if b = true then 1 else 0)) % 4294967296 = (st s ^^^ bit b).reverse.toNat := by
  rw [rev_val, st_low s h]
theorem step_yes (s : B) (b : Bool) (h : s.getLsbD 0 = true) : Go.bits .xor .u32 (((s.reverse.toNat * 2 + (if b = true then 1 else 0)) % 4294967296 : Nat) : Int) 79764919 = ((st s ^^^ bit b).reverse.toNat : Int) := by
  rw [rev_val]
  have h2 := xor_bv ((s >>> 1) ^^^ bit b).reverse poly.reverse
  rw [show ((poly.reverse.toNat : Nat) : Int) = 79764919 from by rw [rev_poly]; rfl] at h2
  rw [h2, ← rev_xor]
  unfold st
  rw [if_pos h, BitVec.xor_assoc, BitVec.xor_assoc, BitVec.xor_comm poly]
theorem byte_bit (c : B) (k : Nat) : c.toNat / 2 ^ k % 2 = if c.getLsbD k = true then 1 else 0 := by
  rw [BitVec.getLsbD, Nat.testBit_eq_decide_div_mod_eq]
  by_cases h : c.toNat / 2 ^ k % 2 = 1
  · rw [if_pos (by simp [h])]; exact h
  · rw [if_neg (by simp [h])]; omega
theorem neg_bit (c : B) (k : Nat) (hk : k < 8) : (c ^^^ 255#32).getLsbD k = ! c.getLsbD k := by
  have : ∀ k, k < 8 → (255#32 : B).getLsbD k = true := by decide
  rw [BitVec.getLsbD_xor, this k hk]; simp
theorem power_calls (k : Nat) (hk : k ≤ 8) (p : Int) (hp : p = ((2 ^ k : Nat) : Int)) (w : World) : Calls Tryd.prog 109 #[.int .i64 (k : Int)] w fun e w' => e = .returned (.int .u32 p) ∧ w = w' := by
  have HPP := Lib.hid hp
  clear hp
  go_enter Tryd.func109, Tryd.ntmps109
  go_wp2_with fail
  go_loop [3, 4] (fun p i => ∃ j : Nat, p = .int .u32 ((2 ^ j : Nat) : Int) ∧ i = .int .i64 j ∧ j ≤ k) (fun _ i => k - (intOf i).toNat)
  case atStart => exact ⟨0, rfl, rfl, by omega⟩
  case round =>
    obtain ⟨j, rfl, rfl, hj⟩ := hrel
    have hp : 2 ^ j ≤ 2 ^ 8 := Nat.pow_le_pow_right (by omega) (by omega)
    have hs : (2 : Nat) ^ (j + 1) = 2 ^ j * 2 := Nat.pow_succ 2 j
    have HS := Lib.hid hs
    obtain ⟨P, hP⟩ : ∃ P : Nat, P = 2 ^ j := ⟨_, rfl⟩
    rw [← hP] at hp HS ⊢
    have HP := Lib.hid hP
    clear hs hP
    by_cases hlt : j < k
    · go_wp2_with fail
      go_round
      case rel => exact ⟨j + 1, by rw [HS.out]; go_num, by go_num, by omega⟩
      case measure => simp [intOf]; omega
    · have he : j = k := by omega
      have HE := Lib.hid he
      go_wp2_with fail
      go_ret
      exact ⟨by rw [HPP.out, ← HE.out, ← HP.out]; rfl, rfl⟩
theorem mirrored_calls (n : B) (w : World) : Calls Tryd.prog 110 #[.int .u32 (n.toNat : Int)] w fun e w' => e = .returned (.int .u32 (n.reverse.toNat : Int)) ∧ w = w' := by
  go_enter Tryd.func110, Tryd.ntmps110
  go_wp2_with fail
  go_loop [0, 3, 4] (fun v x i => ∃ j : Nat, v = .int .u32 ((n.toNat / 2 ^ j : Nat) : Int) ∧ x = .int .u32 ((n.reverse.toNat / 2 ^ (32 - j) : Nat) : Int) ∧ i = .int .i64 j ∧ j ≤ 32) (fun _ _ i => 32 - (intOf i).toNat)
  case atStart => exact ⟨0, by simp, by simp [Nat.div_eq_of_lt n.reverse.isLt], rfl, by omega⟩
  case round =>
    obtain ⟨j, rfl, rfl, rfl, hj⟩ := hrel
    by_cases hlt : j < 32
    · have h1 : n.toNat / 2 ^ (j + 1) = n.toNat / 2 ^ j / 2 := by rw [Nat.pow_succ, Nat.div_div_eq_div_mul]
      have h2 : n.reverse.toNat / 2 ^ (32 - (j + 1)) = n.reverse.toNat / 2 ^ (32 - j) * 2 + n.toNat / 2 ^ j % 2 := by
        have e1 : (2 : Nat) ^ (32 - j) = 2 ^ (32 - (j + 1)) * 2 := by rw [← Nat.pow_succ]; congr 1; omega
        have e2 := byte_bit n.reverse (32 - (j + 1))
        have e3 := byte_bit n j
        rw [rev_bit n _ (by omega), show 31 - (32 - (j + 1)) = j by omega] at e2
        rw [e1, ← Nat.div_div_eq_div_mul, e3, ← e2]
        omega
      have h3 : n.reverse.toNat / 2 ^ (32 - j) < 2147483648 := by
        have e1 : (2 : Nat) ≤ 2 ^ (32 - j) := by
          calc (2 : Nat) = 2 ^ 1 := rfl
            _ ≤ _ := Nat.pow_le_pow_right (by omega) (by omega)
        exact Nat.lt_of_le_of_lt (Nat.div_le_div_left e1 (by omega)) (by have := n.reverse.isLt; omega)
      have h4 : n.toNat / 2 ^ j < 4294967296 := Nat.lt_of_le_of_lt (Nat.div_le_self _ _) n.isLt
      have H1 := Lib.hid h1
      have H2 := Lib.hid h2
      clear h1 h2
      obtain ⟨N, hN⟩ : ∃ N : Nat, N = n.toNat / 2 ^ j := ⟨_, rfl⟩
      obtain ⟨X, hX⟩ : ∃ X : Nat, X = n.reverse.toNat / 2 ^ (32 - j) := ⟨_, rfl⟩
      rw [← hN] at H1 H2 h4 ⊢
      rw [← hX] at H2 h3 ⊢
      clear hN hX
      go_wp2_with fail
      go_round
      case rel => exact ⟨j + 1, by rw [H1.out]; go_num, by rw [H2.out]; go_num, by go_num, by omega⟩
      case measure => simp [intOf]; omega
    · have he : j = 32 := by omega
      have HE : Hid (((n.reverse.toNat / 2 ^ (32 - j) : Nat) : Int) = (n.reverse.toNat : Int)) := by rw [he]; exact congrArg _ (Nat.div_one _)
      clear he
      obtain ⟨X, hX⟩ : ∃ X : Int, X = ((n.reverse.toNat / 2 ^ (32 - j) : Nat) : Int) := ⟨_, rfl⟩
      rw [← hX] at HE ⊢
      clear hX
      go_wp2_with fail
      go_ret
      exact ⟨by rw [← HE.out]; rfl, rfl⟩
theorem bit_val (b : Bool) : ((if b = true then 1 else 0 : Nat) : Int) = if b = true then 1 else 0 := by cases b <;> rfl
/-- One bit taken in by the document's sum. -/
theorem ms_val (s c : B) (k : Nat) : ms s c (k + 1) = st (ms s c k) ^^^ bit (c.getLsbD k) := rfl
set_option maxHeartbeats 6400000 in
set_option maxRecDepth 100000 in
theorem rsum_walk (xs : List Int) (A : Option Addr) (c : Nat) (w : World) (hn : xs.length ≤ 4611686018427387904) (hat : ∀ k, k < xs.length → ∃ ad, A = some ad ∧ w.cell? (ad.add k) = some (.int .u8 (xs.getD k 0))) (hv : ∀ a, a ∈ xs → 0 ≤ a ∧ a ≤ 255) :
    Calls Tryd.prog 106 #[.slice A xs.length c] w fun e w' => e = .returned (.int .u32 ((crc xs).toNat : Int)) ∧ Below w.heap.size w w' := by
  have HAT := Lib.hid hat
  have HV := Lib.hid hv
  clear hat hv
  go_enter Tryd.func106, Tryd.ntmps106
  go_wp2_with fail
  go_loopw [3, 4] (fun r i wr => ∃ j : Nat, r = .int .u32 ((S xs j).reverse.toNat : Int) ∧ i = .int .i64 j ∧ j ≤ xs.length + 4 ∧ Below w.heap.size w wr) (fun _ i _ => xs.length + 4 - (intOf i).toNat)
  case atStart => exact ⟨0, by simp [S]; decide, rfl, by omega, Below.refl _ _⟩
  case round =>
    obtain ⟨j, rfl, rfl, hj, hb⟩ := hrel
    have HB := Lib.hid hb
    clear hb
    by_cases hlt : j < xs.length + 4
    · have hlt' : (j : Int) < (xs.length : Int) + 4 := by omega
      have HST : Hid (S xs (j + 1) = ms (S xs j) (neg j (at_ xs j)) 8) := by
        have hl : (neg j (at_ xs j)).toNat < 256 := by
          unfold neg; split
          · exact xor_lt _ _ 8 (at_lt xs HV.out j) (by decide)
          · exact at_lt xs HV.out j
        show sb _ _ = _
        rw [ms_byte _ _ hl]; rfl
      obtain ⟨wo, rfl⟩ : ∃ wo : World, wo = wr := ⟨_, rfl⟩
      obtain ⟨R0, hR0⟩ : ∃ R0 : Int, R0 = ((S xs j).reverse.toNat : Int) := ⟨_, rfl⟩
      have HR0 := Lib.hid hR0
      rw [← hR0]
      clear hR0
      go_wp2_with fail
      go_loopw [3, 5] (fun r i wr => ∃ k : Nat, r = .int .u32 ((ms (S xs j) (neg j (at_ xs j)) k).reverse.toNat : Int) ∧ i = .int .i64 k ∧ k ≤ 8 ∧ Below w.heap.size w wr) (fun _ i _ => 8 - (intOf i).toNat)
      case atStart => exact ⟨0, by rw [HR0.out]; rfl, rfl, by omega, HB.out⟩
      case round =>
        obtain ⟨k, rfl, rfl, hk, hbk⟩ := hrel
        have HBK := Lib.hid hbk
        clear hbk
        by_cases hk8 : k < 8
        · obtain ⟨s, hs⟩ : ∃ s, s = ms (S xs j) (neg j (at_ xs j)) k := ⟨_, rfl⟩
          obtain ⟨e, he⟩ : ∃ e, e = neg j (at_ xs j) := ⟨_, rfl⟩
          have hnext : ms (S xs j) (neg j (at_ xs j)) (k + 1) = st s ^^^ bit (e.getLsbD k) := by rw [ms_val, ← hs, ← he]
          have HNX := Lib.hid hnext
          rw [← hs]
          obtain ⟨v, hv⟩ : ∃ v : Nat, v = if e.getLsbD k = true then 1 else 0 := ⟨_, rfl⟩
          have hv1 : v ≤ 1 := by rw [hv]; split <;> omega
          obtain ⟨R, hR⟩ : ∃ R : Int, R = (s.reverse.toNat : Int) := ⟨_, rfl⟩
          obtain ⟨N, hN⟩ : ∃ N : Int, N = ((ms (S xs j) (neg j (at_ xs j)) (k + 1)).reverse.toNat : Int) := ⟨_, rfl⟩
          have hRr : 0 ≤ R ∧ R < 4294967296 := by rw [hR]; have := s.reverse.isLt; omega
          have HNN := Lib.hid hN
          have hstep : (R / 2147483648 = 0 ∧ (R * 2 + (v : Int)) % 4294967296 = N) ∨ (R / 2147483648 = 1 ∧ Go.bits .xor .u32 ((R * 2 + (v : Int)) % 4294967296) 79764919 = N) := by
            have ht := rev_top s
            by_cases hl : s.getLsbD 0 = true
            · right
              rw [if_pos hl] at ht
              refine ⟨by rw [hR]; omega, ?_⟩
              have := step_yes s (e.getLsbD k) hl
              rw [← hv, ← hnext, ← hN] at this
              rw [← this, hR]
              congr 1
            · left
              rw [if_neg hl] at ht
              refine ⟨by rw [hR]; omega, ?_⟩
              have := step_no s (e.getLsbD k) (by simpa using hl)
              rw [← hv, ← hnext] at this
              rw [hN, ← this, hR]; omega
          have hbits : j < xs.length → ∃ q : Nat, q ≤ 1 ∧ xs.getD j 0 / ((2 ^ k : Nat) : Int) % 2 = (q : Int) ∧ v = if j < 4 then 1 - q else q := fun hjl => by
            have hb := byte_bit (at_ xs j) k
            have hc : ((at_ xs j).toNat : Int) = xs.getD j 0 := byte_bv _ (by rw [List.getD_eq_getElem?_getD, List.getElem?_eq_getElem hjl]; exact HV.out _ (List.getElem_mem hjl))
            refine ⟨if (at_ xs j).getLsbD k = true then 1 else 0, by split <;> omega, ?_, ?_⟩
            · rw [← hc, ← hb]; rfl
            · rw [hv, he]
              unfold neg
              by_cases h4 : j < 4
              · rw [if_pos h4, if_pos h4, neg_bit _ _ hk8]
                cases (at_ xs j).getLsbD k <;> rfl
              · rw [if_neg h4, if_neg h4]
          have hnil : ¬ j < xs.length → v = if j < 4 then 1 else 0 := fun hjl => by
            rw [hv, he, at_end _ _ (by omega)]
            unfold neg
            by_cases h4 : j < 4
            · rw [if_pos h4, if_pos h4, neg_bit _ _ hk8]; simp
            · rw [if_neg h4, if_neg h4]; simp
          have HBITS := Lib.hid hbits
          have HNIL := Lib.hid hnil
          rw [← hR]
          clear hbits hnil hnext hs he hv hR hN
          have hk8' : (k : Int) < 8 := by omega
          by_cases hjl : j < xs.length
          · obtain ⟨ad, rfl, hcell⟩ := HAT.out j hjl
            have hcw : wr.cell? (ad.add j) = some (.int .u8 (xs.getD j 0)) := (HBK.out.cell (World.block_lt_of_cell? w _ hcell)).trans hcell
            have hby : 0 ≤ xs.getD j 0 ∧ xs.getD j 0 ≤ 255 := by
              rw [List.getD_eq_getElem?_getD, List.getElem?_eq_getElem hjl]; exact HV.out _ (List.getElem_mem hjl)
            obtain ⟨q, q1, q2, q3⟩ := HBITS.out hjl
            obtain ⟨b, hbb⟩ : ∃ b, b = xs.getD j 0 := ⟨_, rfl⟩
            obtain ⟨P, hP⟩ : ∃ P : Int, P = ((2 ^ k : Nat) : Int) := ⟨_, rfl⟩
            have hp : 1 ≤ P ∧ P ≤ 256 := by
              have h1 : 1 ≤ 2 ^ k := Nat.one_le_two_pow
              have h2 : 2 ^ k ≤ 2 ^ 8 := Nat.pow_le_pow_right (by omega) hk
              omega
            have CP := Lib.hid (power_calls k hk P hP)
            rw [← hbb, ← hP] at q2
            rw [← hbb] at hcw hby
            obtain ⟨D, hD⟩ : ∃ D : Int, b / P = D := ⟨_, rfl⟩
            rw [hD] at q2
            have hDr : 0 ≤ D ∧ D ≤ 255 := by
              rw [← hD]
              exact ⟨Int.ediv_nonneg hby.1 (by omega), Int.le_trans (Int.ediv_le_self _ hby.1) hby.2⟩
            have hjl' : (j : Int) < (xs.length : Int) := by omega
            have hp0 : P ≠ 0 := by omega
            clear hcell hbb hP
            by_cases h4 : j < 4
            · have h4' : (j : Int) < 4 := by omega
              rw [if_pos h4] at q3
              rcases hstep with ⟨hs1, hs2⟩ | ⟨hs1, hs2⟩
              · have HS2 := Lib.hid hs2
                clear hs2
                go_wp2_with fail
                go_region_held3 (fun w' => w'.cell? (ad.add j) = some (.int .u8 b)) (go_keep)
                    (first | (go_at_call 109; refine (CP.out _).mono ?_; rintro e w9 ⟨rfl, rfl⟩))
                go_wp2_with fail
                have hs2 := HS2.out
                go_roundw
                case rel => exact ⟨k + 1, (by rw [← HNN.out, ← hs2]; congr 1; omega), by go_num, by omega, by first | exact HBK.out.drew | exact HBK.out⟩
                case measure => simp [intOf]; omega
              · have HS2 := Lib.hid hs2
                clear hs2
                go_wp2_with fail
                go_region_held3 (fun w' => w'.cell? (ad.add j) = some (.int .u8 b)) (go_keep)
                    (first | (go_at_call 109; refine (CP.out _).mono ?_; rintro e w9 ⟨rfl, rfl⟩))
                go_wp2_with fail
                have hs2 := HS2.out
                go_roundw
                case rel => exact ⟨k + 1, (by rw [← HNN.out, ← hs2]; congr 2; omega), by go_num, by omega, by first | exact HBK.out.drew | exact HBK.out⟩
                case measure => simp [intOf]; omega
            · have h4' : ¬ (j : Int) < 4 := by omega
              rw [if_neg h4] at q3
              rcases hstep with ⟨hs1, hs2⟩ | ⟨hs1, hs2⟩
              · have HS2 := Lib.hid hs2
                clear hs2
                go_wp2_with fail
                go_region_held3 (fun w' => w'.cell? (ad.add j) = some (.int .u8 b)) (go_keep)
                    (first | (go_at_call 109; refine (CP.out _).mono ?_; rintro e w9 ⟨rfl, rfl⟩))
                go_wp2_with fail
                have hs2 := HS2.out
                go_roundw
                case rel => exact ⟨k + 1, (by rw [← HNN.out, ← hs2]; congr 1; omega), by go_num, by omega, by first | exact HBK.out.drew | exact HBK.out⟩
                case measure => simp [intOf]; omega
              · have HS2 := Lib.hid hs2
                clear hs2
                go_wp2_with fail
                go_region_held3 (fun w' => w'.cell? (ad.add j) = some (.int .u8 b)) (go_keep)
                    (first | (go_at_call 109; refine (CP.out _).mono ?_; rintro e w9 ⟨rfl, rfl⟩))
                go_wp2_with fail
                have hs2 := HS2.out
                go_roundw
                case rel => exact ⟨k + 1, (by rw [← HNN.out, ← hs2]; congr 2; omega), by go_num, by omega, by first | exact HBK.out.drew | exact HBK.out⟩
                case measure => simp [intOf]; omega
          · have q3 := HNIL.out hjl
            have hjl' : ¬ (j : Int) < (xs.length : Int) := by omega
            by_cases h4 : j < 4
            · have h4' : (j : Int) < 4 := by omega
              rw [if_pos h4] at q3
              rcases hstep with ⟨hs1, hs2⟩ | ⟨hs1, hs2⟩
              · have HS2 := Lib.hid hs2
                clear hs2
                go_wp2_with fail
                have hs2 := HS2.out
                go_roundw
                case rel => exact ⟨k + 1, (by rw [← HNN.out, ← hs2]; congr 1; omega), by go_num, by omega, by first | exact HBK.out.drew | exact HBK.out⟩
                case measure => simp [intOf]; omega
              · have HS2 := Lib.hid hs2
                clear hs2
                go_wp2_with fail
                have hs2 := HS2.out
                go_roundw
                case rel => exact ⟨k + 1, (by rw [← HNN.out, ← hs2]; congr 2; omega), by go_num, by omega, by first | exact HBK.out.drew | exact HBK.out⟩
                case measure => simp [intOf]; omega
            · have h4' : ¬ (j : Int) < 4 := by omega
              rw [if_neg h4] at q3
              rcases hstep with ⟨hs1, hs2⟩ | ⟨hs1, hs2⟩
              · have HS2 := Lib.hid hs2
                clear hs2
                go_wp2_with fail
                have hs2 := HS2.out
                go_roundw
                case rel => exact ⟨k + 1, (by rw [← HNN.out, ← hs2]; congr 1; omega), by go_num, by omega, by first | exact HBK.out.drew | exact HBK.out⟩
                case measure => simp [intOf]; omega
              · have HS2 := Lib.hid hs2
                clear hs2
                go_wp2_with fail
                have hs2 := HS2.out
                go_roundw
                case rel => exact ⟨k + 1, (by rw [← HNN.out, ← hs2]; congr 2; omega), by go_num, by omega, by first | exact HBK.out.drew | exact HBK.out⟩
                case measure => simp [intOf]; omega
        · have hk9 : k = 8 := by omega
          have HE : Hid (((ms (S xs j) (neg j (at_ xs j)) k).reverse.toNat : Int) = ((S xs (j + 1)).reverse.toNat : Int)) := by rw [HST.out, hk9]; exact rfl
          obtain ⟨R, hR⟩ : ∃ R : Int, R = ((ms (S xs j) (neg j (at_ xs j)) k).reverse.toNat : Int) := ⟨_, rfl⟩
          rw [← hR] at HE ⊢
          clear hR hk9
          go_wp2_with fail
          go_roundw
          case rel => exact ⟨j + 1, by rw [HE.out], by go_num, by omega, HBK.out⟩
          case measure => simp [intOf]; omega
    · have hj4 : j = xs.length + 4 := by omega
      have HE : Hid ((S xs j).reverse.reverse = reg xs) := by rw [hj4, S_end xs HV.out, rev_rev]; exact rfl
      have CM := Lib.hid (mirrored_calls (S xs j).reverse)
      have HN := Lib.hid (not_val (S xs j).reverse.reverse)
      obtain ⟨X, hX⟩ : ∃ X : Int, X = ((S xs j).reverse.toNat : Int) := ⟨_, rfl⟩
      obtain ⟨Y, hY⟩ : ∃ Y : Int, Y = ((S xs j).reverse.reverse.toNat : Int) := ⟨_, rfl⟩
      rw [← hX, ← hY] at CM
      rw [← hY] at HN
      rw [← hX]
      clear hX hY hj4
      have hge : ¬ (j : Int) < (xs.length : Int) + 4 := by omega
      go_wp2_with fail
      refine (CM.out _).mono ?_; rintro e w' ⟨rfl, rfl⟩
      go_wp2_with fail
      go_ret
      exact ⟨by unfold crc; rw [← HE.out, ← HN.out]; rfl, HB.out⟩
end Go.Proofs.YtoeiaimoppmjdaaDoor.Crc
