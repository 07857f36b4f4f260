/- Contracts: the reference's Var and Text; the Writer's Bytes. -/
import Derived.Test.YtoeiaimoppmjdaaDoorNums
namespace Go.Proofs.YtoeiaimoppmjdaaDoor.Wr
open Go.RowKit Go.Proofs.YtoeiaimoppmjdaaDoorW.PrintWords Go.Proofs.YtoeiaimoppmjdaaDoor.Bytes
set_option linter.unusedVariables false
set_option linter.unusedSimpArgs false
theorem reads_of_own {w : World} {base n : Nat} {e : TypeId} {v : Value} {xs : List Int} (h : w.ownsRow base e 1 v n (encs I xs)) : ∃ A c, v = .slice A n c ∧ ReadsOf I 0 w A n xs := own_reads_of (d := (0 : Int)) h
set_option maxRecDepth 20000 in
set_option maxHeartbeats 1600000 in
theorem rvar_calls (n : Nat) : ∀ (w : World) (base : Nat), base ≤ w.heap.size → n < 18446744073709551616 →
    Calls Tryd.prog 79 #[.int .u64 n] w fun e w' => ∃ v, e = .returned v ∧ w'.ownsRow base 5 1 v (vr n).length (encs I (vr n)) ∧ Below base w w' := by
  induction n using Nat.strongRecOn with
  | _ n ih =>
    intro w base hbase hn
    have HBS := Lib.hid hbase
    by_cases h : n < 128
    · have i1 : (n : Int) < 128 := by omega
      have HV := Lib.hid (vr_small h)
      have HO := Lib.hid (own_lit_of (enc := I) w base 5 [(n : Int)] hbase (by simp))
      clear hbase hn h ih
      go_enter Tryd.func79, Tryd.ntmps79
      go_wp2_with fail
      go_ret
      exact ⟨_, rfl, by rw [HV.out]; exact HO.out, (Below.refl _ _).alloc HBS.out _⟩
    · obtain ⟨m, hmm⟩ : ∃ m, m = n / 128 := ⟨_, rfl⟩
      have HC := Lib.hid (fun W => ih m (by omega) W W.heap.size (Nat.le_refl _) (by omega))
      have i1 : ¬ (n : Int) < 128 := by omega
      obtain ⟨x, hx⟩ : ∃ x : Int, x = ((128 + n % 128 : Nat) : Int) := ⟨_, rfl⟩
      have qv : 128 + (n : Int) % 128 = x := by rw [hx]; omega
      have qw : IntKind.u64.wrap (m : Int) = (m : Int) := by rw [IntKind.wrap_u64]; omega
      have qd : (n : Int) / 128 = (m : Int) := by omega
      have HV : Hid (vr n = [x] ++ vr m) := by
        show vr n = [x] ++ vr m
        rw [vr_great h, hx, hmm]; rfl
      have HL : Hid ((vr m).length ≤ 10) := vr_length m 9 (by omega)
      have HO := Lib.hid (own_lit_of (enc := I) w base 5 [x] hbase (by simp))
      have HN : Hid ((n : Int) ≤ 18446744073709551615) := by show _ ≤ _; omega
      have n0 : (0 : Int) ≤ (n : Int) % 128 := by omega
      have n1 : (n : Int) % 128 < 128 := by omega
      clear hbase hn h ih hx hmm
      go_enter Tryd.func79, Tryd.ntmps79
      go_wp2_with fail
      refine (HC.out _).mono ?_; rintro e w1 ⟨v1, rfl, ho1, hb1'⟩
      obtain ⟨A1, c1, rfl, hr1⟩ := reads_of_own ho1
      have HR1 := Lib.hid hr1
      have HO1 := Lib.hid ho1
      have HBW : Hid (Below base w w1) := (((Below.refl base w).alloc HBS.out _).trans (hb1'.mono (by have := HBS.out; simp; omega)))
      clear hr1 ho1
      have HO2 := Lib.hid (pw_own_below HO.out hb1')
      go_wp2_with (at_builtin; refine print_append_row_of I 0 (w0 := w) base rfl (.tmp 14) (.tmp 17) 22 5 (.int .u8 0) 1 rfl Tryd.underlying22 info5 rfl (by omega) (fun _ => rfl) (.slice (some ⟨w.heap.size, 0, none⟩) 1 1) [x] (vr m) A1 (vr m).length c1 rfl rfl ?h1 ?h2 ?h3 ?h4 ?h5 ?_; (case h1 => exact HO2.out); (case h2 => exact HR1.out); (case h3 => exact HBW.out); (case h4 => exact Nat.le_trans HBS.out HBW.out.size); (case h5 => have := HL.out; simp; omega); intro v2 w2 ho2 hb2 hg2 hat2; have HO3 := Lib.hid ho2; have HB3 := Lib.hid hb2; clear ho2 hb2 hg2 hat2)
      go_wp2_with fail
      go_ret
      exact ⟨_, rfl, by rw [HV.out]; exact HO3.out, HB3.out⟩
set_option maxRecDepth 20000 in
set_option maxHeartbeats 1600000 in
theorem rtext_calls (ys : List Int) (A : Option Addr) (c : Nat) (w : World) (base : Nat) (hbase : base ≤ w.heap.size) (hr : ReadsOf I 0 w A ys.length ys) (hm : ys.length ≤ 70368744177664) :
    Calls Tryd.prog 37 #[.slice A ys.length c] w fun e w' => ∃ v, e = .returned v ∧ w'.ownsRow base 5 1 v (vr ys.length ++ ys).length (encs I (vr ys.length ++ ys)) ∧ Below base w w' := by
  have HBS := Lib.hid hbase
  have HR := Lib.hid hr
  have HM := Lib.hid hm
  have HC := Lib.hid (rvar_calls ys.length w w.heap.size (Nat.le_refl _) (by omega))
  have HL : Hid ((vr ys.length).length ≤ 10) := vr_length ys.length 9 (by omega)
  have l1 : (ys.length : Int) ≤ 9223372036854775807 := by omega
  clear hbase hr hm
  go_enter Tryd.func37, Tryd.ntmps37
  go_wp2_with fail
  refine HC.out.mono ?_; rintro e w1 ⟨v1, rfl, ho1, hb1⟩
  obtain ⟨A1, c1, rfl, hr1⟩ := reads_of_own ho1
  have HO1 := Lib.hid (own_less ho1 HBS.out)
  have HB1 : Hid (Below base w w1) := hb1.mono HBS.out
  have HR1 := Lib.hid (reads_keep HR.out hb1)
  clear ho1 hr1 hb1
  go_wp2_with (at_builtin; refine print_append_row_of I 0 (w0 := w) base rfl (.tmp 8) (.tmp 9) 22 5 (.int .u8 0) 1 rfl Tryd.underlying22 info5 rfl (by omega) (fun _ => rfl) (.slice A1 (vr ys.length).length c1) (vr ys.length) ys A ys.length c rfl rfl ?h1 ?h2 ?h3 ?h4 ?h5 ?_; (case h1 => exact HO1.out); (case h2 => exact HR1.out); (case h3 => exact HB1.out); (case h4 => exact Nat.le_trans HBS.out HB1.out.size); (case h5 => have := HL.out; have := HM.out; omega); intro v2 w2 ho2 hb2 hg2 hat2; have HO3 := Lib.hid ho2; have HB3 := Lib.hid hb2; clear ho2 hb2 hg2 hat2)
  go_wp2_with fail
  go_ret
  exact ⟨_, rfl, HO3.out, HB3.out⟩
theorem wbytes_calls (ys : List Int) (A : Option Addr) (c : Nat) (W : World) (base g : Nat) (v : Value) (xs : List Int) (h : Wtr W base g v xs) (hbase : base ≤ W.heap.size) (hr : ∀ w', KeepBut W w' g v.ownBlock → ReadsOf I 0 w' A ys.length ys) (hm : xs.length + ys.length ≤ 70368744177600) :
    Calls Tryd.prog 31 #[.pointer (some ⟨g, 0, none⟩), .slice A ys.length c] W fun e w' => e = .returned (.tuple #[]) ∧ ∃ v', Put W w' base g v v' (xs ++ (vr ys.length ++ ys)) := by
  have HBS := Lib.hid hbase
  have HR := Lib.hid hr
  have HM := Lib.hid hm
  have HC := Lib.hid (wvar_calls ys.length W base g v xs h hbase (by omega) (by omega))
  have HL : Hid ((vr ys.length).length ≤ 10) := vr_length ys.length 9 (by omega)
  have l1 : (ys.length : Int) ≤ 9223372036854775807 := by omega
  clear hbase hr hm h
  go_enter Tryd.func31, Tryd.ntmps31
  go_wp2_with fail
  refine HC.out.mono ?_; rintro e w1 ⟨rfl, v1, hp1⟩
  have HP := Lib.hid hp1
  have HC2 := Lib.hid (raw_calls w1 base g v1 (xs ++ vr ys.length) ys A c hp1.wt (Nat.le_trans HBS.out hp1.bl.size) (HR.out w1 hp1.kb) (by have := HL.out; have := HM.out; simp; omega))
  clear hp1
  go_wp2_with fail
  refine HC2.out.mono ?_; rintro e w2 ⟨rfl, v2, hp2⟩
  have HP2 := Lib.hid hp2
  clear hp2
  go_wp2_with fail
  go_end0
  exact ⟨rfl, _, by have h := HP.out.trans HP2.out; rw [List.append_assoc] at h; exact h⟩
theorem into_calls (i : Int) (w : World) (h1 : -9223372036854775808 ≤ i) (h2 : i ≤ 9223372036854775807) :
    Calls Tryd.prog 18 #[.int .i64 i, .int .i64 2] w fun e w' => e = .returned (.int .i64 (i % 2)) ∧ w' = w := by
  have b1 := Int.tmod_lt_of_pos i (show (0 : Int) < 2 by omega)
  have b2 := Int.lt_tmod_of_pos i (show (0 : Int) < 2 by omega)
  by_cases hi : i.tmod 2 < 0
  · have e : i % 2 = wrap64 (i.tmod 2 + 2) := by
      rw [show wrap64 (i.tmod 2 + 2) = i.tmod 2 + 2 by unfold wrap64; omega]
      have h := Int.mul_tdiv_add_tmod i 2
      rw [← Int.emod_eq_of_lt (a := i.tmod 2 + 2) (b := 2) (by omega) (by omega)]
      conv => lhs; rw [← h]
      rw [Int.mul_add_emod_self_left, Int.add_emod_right]
    rw [e]
    clear e b1 b2
    go_enter Tryd.func18, Tryd.ntmps18
    go_wp2_with fail
    go_ret
    exact ⟨rfl, rfl⟩
  · have e : i % 2 = i.tmod 2 := by
      have h := Int.mul_tdiv_add_tmod i 2
      rw [← Int.emod_eq_of_lt (a := i.tmod 2) (b := 2) (by omega) b1]
      conv => lhs; rw [← h]
      rw [Int.mul_add_emod_self_left]
    rw [e]
    clear e b1 b2
    go_enter Tryd.func18, Tryd.ntmps18
    go_wp2_with fail
    go_ret
    exact ⟨rfl, rfl⟩
end Go.Proofs.YtoeiaimoppmjdaaDoor.Wr
