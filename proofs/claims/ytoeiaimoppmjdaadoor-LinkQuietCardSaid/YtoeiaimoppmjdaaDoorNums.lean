/- Contracts: U8, U32, U64 of the Writer and of the reference; Var of both; Bytes, Text. -/
import Derived.Test.YtoeiaimoppmjdaaDoorWFix
namespace Go.Proofs.YtoeiaimoppmjdaaDoor.Wr
open Go.RowKit Go.Proofs.YtoeiaimoppmjdaaDoorW.PrintWords Go.Proofs.YtoeiaimoppmjdaaDoor.Bytes
set_option linter.unusedVariables false
set_option linter.unusedSimpArgs false
theorem wu8_calls (n : Nat) (W : World) (base g : Nat) (v : Value) (xs : List Int) (h : Wtr W base g v xs) (hbase : base ≤ W.heap.size) (hn : n < 256) (hm : xs.length ≤ 70368744177664) :
    Calls Tryd.prog 39 #[.pointer (some ⟨g, 0, none⟩), .int .u8 n] W fun e w' => e = .returned (.tuple #[]) ∧ ∃ v', Put W w' base g v v' (xs ++ fixL n 1) := by
  have HC := Lib.hid (wfixed_calls n 1 W base g v xs h hbase (by omega) (by omega) hm)
  clear h
  go_enter Tryd.func39, Tryd.ntmps39
  go_wp2_with fail
  refine HC.out.mono ?_; rintro e w1 ⟨rfl, v1, hp1⟩
  have HP := Lib.hid hp1
  clear hp1
  go_wp2_with fail
  go_end0
  exact ⟨rfl, _, HP.out⟩
theorem wu32_calls (n : Nat) (W : World) (base g : Nat) (v : Value) (xs : List Int) (h : Wtr W base g v xs) (hbase : base ≤ W.heap.size) (hn : n < 4294967296) (hm : xs.length ≤ 70368744177664) :
    Calls Tryd.prog 81 #[.pointer (some ⟨g, 0, none⟩), .int .u32 n] W fun e w' => e = .returned (.tuple #[]) ∧ ∃ v', Put W w' base g v v' (xs ++ fixL n 4) := by
  have HC := Lib.hid (wfixed_calls n 4 W base g v xs h hbase (by omega) (by omega) hm)
  clear h
  go_enter Tryd.func81, Tryd.ntmps81
  go_wp2_with fail
  refine HC.out.mono ?_; rintro e w1 ⟨rfl, v1, hp1⟩
  have HP := Lib.hid hp1
  clear hp1
  go_wp2_with fail
  go_end0
  exact ⟨rfl, _, HP.out⟩
theorem ru32_calls (n : Nat) (w : World) (base : Nat) (hbase : base ≤ w.heap.size) (hn : n < 4294967296) :
    Calls Tryd.prog 105 #[.int .u32 n] w fun e w' => ∃ v, e = .returned v ∧ w'.ownsRow base 5 1 v 4 (encs I (fixL n 4)) ∧ Below base w w' := by
  have HC := Lib.hid (rfixed_calls n 4 w base hbase (by omega) (by omega))
  go_enter Tryd.func105, Tryd.ntmps105
  go_wp2_with fail
  refine HC.out.mono ?_; rintro e w1 ⟨v1, rfl, ho1, hb1⟩
  have HO1 := Lib.hid ho1
  have HB1 := Lib.hid hb1
  clear ho1 hb1
  go_wp2_with fail
  go_ret
  exact ⟨_, rfl, HO1.out, HB1.out⟩
theorem wu64_calls (n : Nat) (W : World) (base g : Nat) (v : Value) (xs : List Int) (h : Wtr W base g v xs) (hbase : base ≤ W.heap.size) (hn : n < 18446744073709551616) (hm : xs.length ≤ 70368744177664) :
    Calls Tryd.prog 82 #[.pointer (some ⟨g, 0, none⟩), .int .u64 n] W fun e w' => e = .returned (.tuple #[]) ∧ ∃ v', Put W w' base g v v' (xs ++ fixL n 8) := by
  have HC := Lib.hid (wfixed_calls n 8 W base g v xs h hbase (by omega) (by omega) hm)
  clear h
  go_enter Tryd.func82, Tryd.ntmps82
  go_wp2_with fail
  refine HC.out.mono ?_; rintro e w1 ⟨rfl, v1, hp1⟩
  have HP := Lib.hid hp1
  clear hp1
  go_wp2_with fail
  go_end0
  exact ⟨rfl, _, HP.out⟩
theorem len64_calls (x : Nat) (w : World) (h : x < 18446744073709551616) : Calls Tryd.prog 103 #[.int .u64 x] w fun e w' => ∃ b : Nat, e = .returned (.int .i64 b) ∧ w' = w ∧ x < 2 ^ b ∧ (0 < b → 2 ^ (b - 1) ≤ x) ∧ b ≤ 64 := by
  refine (bits_Len64 (x : Int) w (by omega) (by omega)).mono ?_
  rintro e w' ⟨rfl, rfl⟩
  refine ⟨Lib.bitLen x, by simp, rfl, ?_⟩
  by_cases h0 : x = 0
  · subst h0; exact ⟨by decide, by decide, by decide⟩
  · have hb := Lib.bitLenAux_bounds 64 x h h0
    refine ⟨hb.2.2, fun _ => hb.2.1, ?_⟩
    exact Lib.bitLen_le x 64 (by omega) h
set_option maxRecDepth 20000 in
set_option maxHeartbeats 1600000 in
theorem wvar_calls (n : Nat) (W : World) (base g : Nat) (v : Value) (xs : List Int) (h : Wtr W base g v xs) (hbase : base ≤ W.heap.size) (hn : n < 18446744073709551616) (hm : xs.length ≤ 70368744177664) :
    Calls Tryd.prog 76 #[.pointer (some ⟨g, 0, none⟩), .int .u64 n] W fun e w' => e = .returned (.tuple #[]) ∧ ∃ v', Put W w' base g v v' (xs ++ vr n) := by
  have HC := Lib.hid (len64_calls n W hn)
  have HBS := Lib.hid hbase
  have HN := Lib.hid hn
  have H := Lib.hid h
  have HM := Lib.hid hm
  clear h hbase hm
  go_enter Tryd.func76, Tryd.ntmps76
  go_wp2_with fail
  refine HC.out.mono ?_; rintro e w1 ⟨b, rfl, rfl, hb1, hb2, hb3⟩
  have hrr := rounds n b hb1 hb2
  obtain ⟨K, hK⟩ : ∃ K, K = (max 1 b - 1) / 7 := ⟨_, rfl⟩
  rw [← hK] at hrr
  have HR := Lib.hid hrr
  have HK := Lib.hid hK
  have e1 : (max (1 : Int) (b : Int) - 1) / 7 = (K : Int) := by omega
  have e2 : (K : Int) ≤ 9 := by omega
  clear hb1 hb2 hrr hK
  go_wp2_with fail
  rw [e1]
  go_loopw [1, 9] (fun m i wr => ∃ (k : Nat) (v' : Value), m = .int .u64 ((n / 128 ^ k : Nat) : Int) ∧ i = .int .i64 k ∧ k ≤ K ∧ Put w1 wr base g v v' (xs ++ digs n k)) (fun _ i _ => K - (intOf i).toNat)
  case atStart => exact ⟨0, v, by simp, rfl, by omega, by simpa [digs] using Put.refl H.out⟩
  case round =>
    obtain ⟨k, v', rfl, rfl, hk, hp⟩ := hrel
    have HP := Lib.hid hp
    obtain ⟨m, hmm⟩ : ∃ m, m = n / 128 ^ k := ⟨_, rfl⟩
    rw [← hmm]
    have hmb : (m : Int) ≤ 18446744073709551615 := by
      have := HN.out
      have := Nat.div_le_self n (128 ^ k)
      omega
    have hc := blk_cell hp.wt.blk 0
    simp at hc
    obtain ⟨zs, hzs⟩ : ∃ zs, zs = xs ++ digs n k := ⟨_, rfl⟩
    have HLEN : Hid (zs.length ≤ 70368744177680) := by
      have hdl : (digs n k).length = k := by
        clear hzs hp hmm HP
        induction k with
        | zero => rfl
        | succ k ih => simp [digs, ih (by omega)]
      have := HM.out
      show zs.length ≤ 70368744177680
      rw [hzs, List.length_append, hdl]; omega
    rw [← hzs] at HP hp
    by_cases hlt : k < K
    · obtain ⟨x, hx⟩ : ∃ x : Int, x = ((128 + m % 128 : Nat) : Int) := ⟨_, rfl⟩
      have qv : Go.bits .or .u8 ((m : Int) % 256) 128 = x := by
        rw [hx, show (m : Int) % 256 = ((m % 256 : Nat) : Int) by omega, or_128 (m % 256) (by omega)]
        congr 2; omega
      have HXX : Hid (zs ++ [x] = xs ++ digs n (k + 1)) := by
        show zs ++ [x] = xs ++ digs n (k + 1)
        rw [hzs, hx, hmm, digs, List.append_assoc]
      have HMM : Hid (m / 128 = n / 128 ^ (k + 1)) := by
        show m / 128 = n / 128 ^ (k + 1)
        rw [hmm, Nat.div_div_eq_div_mul, ← Nat.pow_succ]
      have i1 : (k : Int) < (K : Int) := by omega
      clear hx hzs hmm hp
      go_wp2_with (at_builtin; refine print_append_of I (w0 := w1) base rfl (.tmp 15) (.tmp 19) 22 5 (.int .u8 0) 1 rfl Tryd.underlying22 info5 rfl (by omega) v' zs x rfl rfl rfl ?h1 ?h2 ?h3 ?h4 ?_; (case h1 => exact HP.out.wt.own); (case h2 => exact HP.out.bl); (case h3 => exact Nat.le_trans HBS.out HP.out.bl.size); (case h4 => have := HLEN.out; omega); intro v2 w2 ho1 hb1 hg1 hat1; obtain ⟨A1, m1, c1, rfl⟩ := slice_form ho1; have HP2 := Lib.hid (put_one HP.out.wt (Nat.le_trans HBS.out HP.out.bl.size) ho1 hg1 hat1); have hblk := blk_grown HP.out.wt.blk hg1 HP.out.wt.ne; have f0 := blk_frozen hblk 0; have c0 := blk_cell hblk 0; simp at c0; clear ho1 hb1 hg1 hat1 hblk)
      go_wp2_with fail
      go_roundw
      case rel => exact ⟨k + 1, _, by rw [← HMM.out]; rfl, by go_num, by omega, by have h := HP.out.trans HP2.out; rw [HXX.out] at h; exact h⟩
      case measure => simp [intOf]; omega
    · obtain rfl : k = K := by omega
      have hm2 : m < 128 := by rw [hmm]; exact HR.out.2
      have HXX : Hid (zs ++ [(m : Int)] = xs ++ vr n) := by
        show zs ++ [(m : Int)] = xs ++ vr n
        rw [vr_digs n k HR.out.1, ← hmm, vr_small hm2, hzs, List.append_assoc]
      have i1 : ¬ (k : Int) < (k : Int) := by omega
      have i2 : (m : Int) < 128 := by omega
      clear hzs hmm hp
      go_wp2_with (at_builtin; refine print_append_of I (w0 := w1) base rfl (.tmp 30) (.tmp 33) 22 5 (.int .u8 0) 1 rfl Tryd.underlying22 info5 rfl (by omega) v' zs (m : Int) rfl rfl rfl ?h1 ?h2 ?h3 ?h4 ?_; (case h1 => exact HP.out.wt.own); (case h2 => exact HP.out.bl); (case h3 => exact Nat.le_trans HBS.out HP.out.bl.size); (case h4 => have := HLEN.out; omega); intro v2 w2 ho1 hb1 hg1 hat1; obtain ⟨A1, m1, c1, rfl⟩ := slice_form ho1; have HP2 := Lib.hid (put_one HP.out.wt (Nat.le_trans HBS.out HP.out.bl.size) ho1 hg1 hat1); have hblk := blk_grown HP.out.wt.blk hg1 HP.out.wt.ne; have f0 := blk_frozen hblk 0; have c0 := blk_cell hblk 0; simp at c0; clear ho1 hb1 hg1 hat1 hblk)
      go_wp2_with fail
      go_end0
      exact ⟨rfl, _, by have h := HP.out.trans HP2.out; rw [HXX.out] at h; exact h⟩
end Go.Proofs.YtoeiaimoppmjdaaDoor.Wr
