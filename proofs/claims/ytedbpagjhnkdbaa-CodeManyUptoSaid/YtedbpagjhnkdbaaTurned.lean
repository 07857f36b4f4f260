/- Contracts of Copy, place, turned. -/
import Derived.Test.YtedbpagjhnkdbaaTold
import Derived.BigRegion
namespace Go.Proofs.Ytedbpagjhnkdbaa.Bytes
open Go.RowKit Go.Proofs.YtedbpagjhnkdbaaW.PrintWords Go.Proofs.Ytedbpagjhnkdbaa.Crc
set_option linter.unusedVariables false
set_option linter.unusedSimpArgs false
set_option maxHeartbeats 1600000 in
set_option maxRecDepth 20000 in
theorem copy_calls (xs : List Int) (A : Option Addr) (c : Nat) (w : World) (base : Nat) (hbase : base ≤ w.heap.size) (hr : ReadsOf I 0 w A xs.length xs) (hm : xs.length ≤ 140737488355328) :
    Calls Try.prog 15 #[.slice A xs.length c] w fun e w' => ∃ v, e = .returned v ∧ w'.ownsRow base 5 1 v xs.length (encs I xs) ∧ Below base w w' := by
  have HBS := Lib.hid hbase
  have HR := Lib.hid hr
  have HM := Lib.hid hm
  clear hr hm hbase
  go_enter Try.func15, Try.ntmps15
  go_wp2_with (at_builtin; refine print_append_row_of I 0 (w0 := w) base rfl (.tmp 4) (.tmp 5) 27 5 (.int .u8 0) 1 rfl Try.underlying27 info5 rfl (by omega) (fun _ => rfl) (.slice none 0 0) [] xs A xs.length c rfl rfl ?h1 HR.out ?h2 HBS.out ?h3 ?_; (case h1 => exact own_nil w base 5 1); (case h2 => exact Below.refl _ _); (case h3 => have := HM.out; simp; omega); intro v1 w1 ho1 hb1 hg1 hat1; have HO1 := Lib.hid ho1; have HB1 := Lib.hid hb1; clear ho1 hb1 hg1 hat1)
  go_wp2_with fail
  go_ret
  exact ⟨_, rfl, by simpa using HO1.out, HB1.out⟩
set_option maxHeartbeats 1600000 in
set_option maxRecDepth 20000 in
theorem place_calls (i n : Int) (w : World) (hn : 0 < n) (hn2 : n ≤ 1073741824) (h1 : -9223372036854775808 ≤ i) (h2 : i ≤ 9223372036854775807) :
    Calls Try.prog 16 #[.int .i64 i, .int .i64 n] w fun e w' => e = .returned (.int .i64 (i % n)) ∧ w' = w := by
  have r1 : ¬ n = 0 := by omega
  have b1 := Int.tmod_lt_of_pos i hn
  have b2 := Int.lt_tmod_of_pos i hn
  by_cases hi : i.tmod n < 0
  · have e : i % n = wrap64 (i.tmod n + n) := by
      rw [show wrap64 (i.tmod n + n) = i.tmod n + n by unfold wrap64; omega]
      have h := Int.mul_tdiv_add_tmod i n
      rw [← Int.emod_eq_of_lt (a := i.tmod n + n) (b := n) (by omega) (by omega)]
      conv => lhs; rw [← h]
      rw [Int.mul_add_emod_self_left, Int.add_emod_right]
    rw [e]
    clear e b1 b2
    go_enter Try.func16, Try.ntmps16
    go_wp2_with fail
    go_ret
    exact ⟨rfl, rfl⟩
  · have e : i % n = i.tmod n := by
      have h := Int.mul_tdiv_add_tmod i n
      rw [← Int.emod_eq_of_lt (a := i.tmod n) (b := n) (by omega) b1]
      conv => lhs; rw [← h]
      rw [Int.mul_add_emod_self_left]
    rw [e]
    clear e b1 b2
    go_enter Try.func16, Try.ntmps16
    go_wp2_with fail
    go_ret
    exact ⟨rfl, rfl⟩
set_option maxHeartbeats 3200000 in
set_option maxRecDepth 20000 in
theorem turned_calls (xs : List Int) (A : Option Addr) (c : Nat) (i : Nat) (w : World) (base : Nat) (hbase : base ≤ w.heap.size) (hr : ReadsOf I 0 w A xs.length xs) (hm : xs.length ≤ 1048576) (hi : i < 8 * xs.length) :
    Calls Try.prog 17 #[.slice A xs.length c, .int .i64 i] w fun e w' => ∃ v, e = .returned v ∧ w'.ownsRow base 5 1 v xs.length (encs I (flip xs i)) ∧ Below base w w' := by
  have HC := Lib.hid (copy_calls xs A c w base hbase hr (by omega))
  have HBS := Lib.hid hbase
  go_enter Try.func17, Try.ntmps17
  go_wp2_with fail
  refine HC.out.mono ?_; rintro e w1 ⟨v, rfl, ho1, hb1⟩
  have HB1 := Lib.hid hb1
  obtain ⟨g, cap, rfl, _, _⟩ := ho1.form (by omega)
  have hat := own_at_of (d := 0) ho1 ((i / 8 : Nat) : Int) (by omega) (by omega)
  rw [Int.toNat_natCast] at hat
  have hst := own_store_of ho1 ((i / 8 : Nat) : Int) (Go.bits .xor .u8 (rdOf 0 xs ((i / 8 : Nat) : Int)) (2 ^ (i % 8) % 256))
  rw [Int.toNat_natCast] at hst
  have HST := Lib.hid hst
  have f1 := hat.1
  have f2 := hat.2
  have HO1 := Lib.hid ho1
  have e1 : ((i : Int)).tdiv 8 = ((i / 8 : Nat) : Int) := by rw [Int.tdiv_eq_ediv_of_nonneg (by omega)]; rfl
  have e2 : ((i : Int)).tmod 8 = ((i % 8 : Nat) : Int) := by rw [Int.tmod_eq_emod_of_nonneg (by omega)]; rfl
  have i1 : (0 : Int) ≤ ((i / 8 : Nat) : Int) := by omega
  have i2 : ((i / 8 : Nat) : Int) < (xs.length : Int) := by omega
  clear ho1 hb1 hat hr hst hbase
  go_wp2_with fail
  go_ret
  exact ⟨_, rfl, HST.out.1, HB1.out.grown HST.out.2 (Nat.le_trans HBS.out HB1.out.size) (own_base HO1.out)⟩
end Go.Proofs.Ytedbpagjhnkdbaa.Bytes
