/- CodeTold: bits turned over within 32 in a row, or in one or two places, give another sum. -/
import Derived.Test.YtedbpagjhnkdbaaTurned
import Derived.BigRegion
import Derived.Lib.SmallJoins
namespace Go.Proofs.Ytedbpagjhnkdbaa.CodeTold
open Go.RowKit Go.Proofs.YtedbpagjhnkdbaaW.PrintWords Go.Proofs.Ytedbpagjhnkdbaa.Crc Go.Proofs.Ytedbpagjhnkdbaa.Bytes Go.Proofs.Ytedbpagjhnkdbaa.Opn
set_option linter.unusedVariables false
set_option linter.unusedSimpArgs false
set_option maxHeartbeats 6400000 in
set_option maxRecDepth 100000 in
theorem walk (xs : List Int) (A : Option Addr) (c : Nat) (at_ one two bt : Int) (w : World) (hr : ReadsOf I 0 w A xs.length xs) (hv : Byt xs) (hm : xs.length ≤ 9223372036854775807)
    (ha1 : -9223372036854775808 ≤ at_) (ha2 : at_ ≤ 9223372036854775807) (ho1 : -9223372036854775808 ≤ one) (ho2 : one ≤ 9223372036854775807) (ht1 : -9223372036854775808 ≤ two) (ht2 : two ≤ 9223372036854775807) (hb1 : 0 ≤ bt) (hb2 : bt ≤ 4294967295) :
    Calls Try.prog 4 #[.agg #[.slice A xs.length c, .int .i64 at_, .int .u32 bt, .int .i64 one, .int .i64 two]] w fun e w' => e = .returned (.bool true) ∧ Below w.heap.size w w' := by
  have HR := Lib.hid hr
  have HV := Lib.hid hv
  obtain ⟨W0, hW0⟩ : ∃ W0, W0 = w.alloc (.cells #[.slice A xs.length c, .int .i64 at_, .int .u32 bt, .int .i64 one, .int .i64 two] 33) := ⟨_, rfl⟩
  have x0 : W0.cell? ⟨w.heap.size, 0, none⟩ = some (.slice A xs.length c) := by rw [hW0]; go_simp
  have x1 : W0.cell? ⟨w.heap.size, 1, none⟩ = some (.int .i64 at_) := by rw [hW0]; go_simp
  have x2 : W0.cell? ⟨w.heap.size, 2, none⟩ = some (.int .u32 bt) := by rw [hW0]; go_simp
  have x3 : W0.cell? ⟨w.heap.size, 3, none⟩ = some (.int .i64 one) := by rw [hW0]; go_simp
  have x4 : W0.cell? ⟨w.heap.size, 4, none⟩ = some (.int .i64 two) := by rw [hW0]; go_simp
  have hsz : W0.heap.size = w.heap.size + 1 := by rw [hW0]; simp
  have HB0 : Hid (Below w.heap.size w W0) := by rw [hW0]; exact (Below.refl _ _).alloc (Nat.le_refl _) _
  have HW0 := Lib.hid hW0
  have HSZ := Lib.hid hsz
  have hcv : (convert 27 27 (.slice (some ⟨w.heap.size + 1, 0, none⟩) 2 2)).run Try.prog ((w.alloc (.cells #[.slice A xs.length c, .int .i64 at_, .int .u32 bt, .int .i64 one, .int .i64 two] 33)).alloc (.cells #[.int .u8 107, .int .u8 55] 5)) = .ok (.slice (some ⟨w.heap.size + 1, 0, none⟩) 2 2) ((w.alloc (.cells #[.slice A xs.length c, .int .i64 at_, .int .u32 bt, .int .i64 one, .int .i64 two] 33)).alloc (.cells #[.int .u8 107, .int .u8 55] 5 (2, 3))) := Go.Joins.run_convert_bytes_const_at (P := Try.prog) (w.alloc (.cells #[.slice A xs.length c, .int .i64 at_, .int .u32 bt, .int .i64 one, .int .i64 two] 33)) 27 5 #[.int .u8 107, .int .u8 55] 2 2 (w.heap.size + 1) (by simp) Try.underlying27 Try.underlying5
  have S7 : Hid (Calls Try.prog 9 #[.slice (some ⟨w.heap.size + 1, 0, none⟩) 2 2] (W0.alloc (.cells #[.int .u8 107, .int .u8 55] 5 (2, 3))) fun e w' => e = .returned (.int .u32 2137851292) ∧ Below W0.heap.size W0 w') := by
    rw [← HSZ.out]
    have h := sum_walk [107, 55] (some ⟨W0.heap.size, 0, none⟩) 2 (W0.alloc (.cells #[.int .u8 107, .int .u8 55] 5 (2, 3))) (by simp) (fun k hk => ⟨_, rfl, by
      rw [add_plain, World.cell?_alloc_mark]
      have : k = 0 ∨ k = 1 := by simp at hk; omega
      rcases this with rfl | rfl <;> rfl⟩) (by intro a ha; simp at ha; omega)
    rw [crc_k7] at h
    exact h.mono fun e w' ⟨he, hb⟩ => ⟨he, ((Below.refl W0.heap.size W0).alloc (Nat.le_refl _) _).trans (hb.mono (by simp))⟩
  have HX0 := Lib.hid x0
  have HX1 := Lib.hid x1
  have HX2 := Lib.hid x2
  have HX3 := Lib.hid x3
  have HX4 := Lib.hid x4
  have KEEP : Hid (∀ W, Below W0.heap.size W0 W → ∀ k v, W0.cell? ⟨w.heap.size, k, none⟩ = some v → W.cell? ⟨w.heap.size, k, none⟩ = some v) :=
    fun W hW k v h => (hW.cell (p := ⟨w.heap.size, k, none⟩) (by have := HSZ.out; simp; omega)).trans h
  clear hW0 hsz x1 x2 x3 x4 hr hv
  by_cases hlong : 1048576 < xs.length
  · have l1 : (1048576 : Int) < (xs.length : Int) := by omega
    clear hlong hm
    go_enter Try.func4, Try.ntmps4
    go_wp2_with fail
    rw [← HW0.out]
    go_wp2_with fail
    refine S7.out.mono ?_; rintro e w1 ⟨rfl, hb1⟩
    have y0 := KEEP.out w1 hb1 0 _ HX0.out
    have HB1 := Lib.hid hb1
    clear hb1 x0
    by_cases h0 : wrap64 (8 * (xs.length : Int)) = 0
    · go_wp2_with fail
      go_ret
      exact ⟨rfl, HB0.out.trans (HB1.out.mono (by have := HSZ.out; omega))⟩
    · have q0 : (wrap64 (8 * (xs.length : Int)) == 0) = false := beq_eq_false_iff_ne.2 h0
      clear h0
      have q1 : decide ((1048576 : Int) < (xs.length : Int)) = true := decide_eq_true l1
      clear l1
      go_wp2_with fail
      go_ret
      exact ⟨rfl, HB0.out.trans (HB1.out.mono (by have := HSZ.out; omega))⟩
  · have l1 : ¬ (1048576 : Int) < (xs.length : Int) := by omega
    by_cases h0 : xs.length = 0
    · have q0 : ((8 * (xs.length : Int)) == 0) = true := by rw [h0]; rfl
      clear h0
      go_enter Try.func4, Try.ntmps4
      go_wp2_with fail
      rw [← HW0.out]
      go_wp2_with fail
      refine S7.out.mono ?_; rintro e w1 ⟨rfl, hb1⟩
      have y0 := KEEP.out w1 hb1 0 _ HX0.out
      have HB1 := Lib.hid hb1
      clear hb1 x0
      go_wp2_with fail
      go_ret
      exact ⟨rfl, HB0.out.trans (HB1.out.mono (by have := HSZ.out; omega))⟩
    · have q0 : ((8 * (xs.length : Int)) == 0) = false := by
        rw [beq_eq_false_iff_ne]; omega
      have H0 := Lib.hid h0
      clear h0
      go_enter Try.func4, Try.ntmps4
      go_wp2_with fail
      rw [← HW0.out]
      go_wp2_with fail
      refine S7.out.mono ?_; rintro e w1 ⟨rfl, hb1⟩
      have y0 := KEEP.out w1 hb1 0 _ HX0.out
      have y1 := KEEP.out w1 hb1 1 _ HX1.out
      have HB1 := Lib.hid hb1
      clear hb1 x0
      have HC1 := Lib.hid (copy_calls xs A c w1 W0.heap.size HB1.out.size (reads_keep HR.out (HB0.out.trans (HB1.out.mono (by have := HSZ.out; omega)))) (by omega))
      go_wp2_with fail
      refine HC1.out.mono ?_; rintro e w2 ⟨v2, rfl, ho2, hb2⟩
      obtain ⟨g2, cap2, rfl, _, _⟩ := ho2.form (by have := H0.out; omega)
      have HB2 := Lib.hid (HB1.out.trans hb2)
      have HS2 := Lib.hid (sum_reads xs (some ⟨g2, 0, none⟩) cap2 w2 (own_reads ho2 (by simp)) HV.out)
      obtain ⟨was, hwas⟩ : ∃ z : Int, z = ((crc xs).toNat : Int) := ⟨_, rfl⟩
      have HWAS := Lib.hid hwas
      rw [← hwas] at HS2
      clear hb2 ho2 hwas y0 y1
      go_wp2_with fail
      refine HS2.out.mono ?_; rintro e w3 ⟨rfl, hb3⟩
      have HB3 := Lib.hid (HB2.out.trans (hb3.mono HB2.out.size))
      have y0 := KEEP.out w3 HB3.out 0 _ HX0.out
      have y1 := KEEP.out w3 HB3.out 1 _ HX1.out
      clear hb3
      obtain ⟨n, hn⟩ : ∃ n : Nat, n = 8 * xs.length := ⟨_, rfl⟩
      have HN := Lib.hid hn
      have e8 : (8 * (xs.length : Int)) = (n : Int) := by omega
      have HP1 := Lib.hid (fun W => place_calls at_ n W (by have := H0.out; omega) (by omega) ha1 ha2)
      have HP2 := Lib.hid (fun W => place_calls one n W (by have := H0.out; omega) (by omega) ho1 ho2)
      have HP3 := Lib.hid (fun W => place_calls two n W (by have := H0.out; omega) (by omega) ht1 ht2)
      have n0 : 0 < n := by have := H0.out; omega
      obtain ⟨a, ha, hal⟩ : ∃ a : Nat, at_ % n = (a : Int) ∧ a < n := ⟨(at_ % n).toNat, (Int.toNat_of_nonneg (Int.emod_nonneg _ (by omega))).symm, by have := Int.emod_lt_of_pos at_ (show (0 : Int) < n by omega); have := Int.emod_nonneg at_ (show (n : Int) ≠ 0 by omega); omega⟩
      obtain ⟨b, hb, hbl⟩ : ∃ a : Nat, one % n = (a : Int) ∧ a < n := ⟨(one % n).toNat, (Int.toNat_of_nonneg (Int.emod_nonneg _ (by omega))).symm, by have := Int.emod_lt_of_pos one (show (0 : Int) < n by omega); have := Int.emod_nonneg one (show (n : Int) ≠ 0 by omega); omega⟩
      obtain ⟨d, hd, hdl⟩ : ∃ a : Nat, two % n = (a : Int) ∧ a < n := ⟨(two % n).toNat, (Int.toNat_of_nonneg (Int.emod_nonneg _ (by omega))).symm, by have := Int.emod_lt_of_pos two (show (0 : Int) < n by omega); have := Int.emod_nonneg two (show (n : Int) ≠ 0 by omega); omega⟩
      rw [ha] at HP1
      rw [hb] at HP2
      rw [hd] at HP3
      have HAL := Lib.hid hal
      have HBL := Lib.hid hbl
      have HDL := Lib.hid hdl
      have HC3 := Lib.hid (copy_calls xs A c w3 W0.heap.size HB3.out.size (reads_keep HR.out (HB0.out.trans (HB3.out.mono (by have := HSZ.out; omega)))) (by omega))
      clear hn ha hb hd hal hbl hdl n0
      rw [e8]
      go_wp2_with fail
      refine (HP1.out _).mono ?_; rintro e w3' ⟨rfl, rfl⟩
      go_wp2_with fail
      refine HC3.out.mono ?_; rintro e w4 ⟨v4, rfl, ho4, hb4⟩
      obtain ⟨g4, cap4, rfl, _, _⟩ := ho4.form (by have := H0.out; omega)
      have HB4 := Lib.hid (HB3.out.trans hb4)
      have HO4 := Lib.hid ho4
      clear hb4 ho4 y0 y1
      go_wp2_with fail
      go_loopw [7, 8] (fun f i wr => ∃ (k : Nat) (any : Bool) (ys : List Int), f = .bool any ∧ i = .int .i64 k ∧ k ≤ 32 ∧ ys.length = xs.length ∧ Byt ys ∧ Burst xs a k ys any ∧ wr.ownsRow W0.heap.size 5 1 (.slice (some ⟨g4, 0, none⟩) xs.length cap4) xs.length (encs I ys) ∧ Below W0.heap.size W0 wr) (fun _ i _ => 32 - (intOf i).toNat)
      case atStart => exact ⟨0, false, xs, rfl, rfl, by omega, rfl, HV.out, burst_nil xs a, HO4.out, HB4.out⟩
      case round =>
        obtain ⟨k, any, ys, rfl, rfl, hk, hyl, hyv, hbu, hor, hbr⟩ := hrel
        have HYL := Lib.hid hyl
        have HYV := Lib.hid hyv
        have HBU := Lib.hid hbu
        have HOR := Lib.hid hor
        have HBR := Lib.hid hbr
        have z2 := KEEP.out wr hbr 2 _ HX2.out
        clear hyl hyv hbu hor hbr
        have nb : (n : Int) ≤ 8388608 := by have := HN.out; omega
        have an : (a : Int) < (n : Int) := by have := HAL.out; omega
        by_cases hin : k < 32 ∧ a + k < n
        · have p1 : (k : Int) < 32 := by omega
          have p2 : (a : Int) + (k : Int) < (n : Int) := by omega
          clear hin
          by_cases hbit : Go.bits .and .u32 (bt / 2 ^ k) 1 = 1
          · have hat := own_at_of (d := 0) HOR.out (((a + k) / 8 : Nat) : Int) (by omega) (by omega)
            rw [Int.toNat_natCast] at hat
            have hst := own_store_of HOR.out (((a + k) / 8 : Nat) : Int) (Go.bits .xor .u8 (rdOf 0 ys (((a + k) / 8 : Nat) : Int)) (2 ^ ((a + k) % 8) % 256))
            rw [Int.toNat_natCast] at hst
            have HST := Lib.hid hst
            have f1 := hat.1
            have f2 := hat.2
            have i1 : (0 : Int) ≤ ((a : Int) + (k : Int)) / 8 := by omega
            have i2 : ((a : Int) + (k : Int)) / 8 < (xs.length : Int) := by have := HN.out; omega
            clear hat hst
            go_wp2_with fail
            go_roundw
            case rel => exact ⟨k + 1, true, flip ys (a + k), rfl, by go_num, by omega, (flip_length ys _).trans HYL.out, flip_byt HYV.out _, burst_bit HBU.out HYV.out HYL.out (by omega) (by have := HN.out; omega), HST.out.1, HBR.out.grown HST.out.2 HBR.out.size (own_base HOR.out)⟩
            case measure => simp [intOf]; omega
          · go_wp2_with fail
            go_roundw
            case rel => exact ⟨k + 1, any, ys, rfl, by go_num, by omega, HYL.out, HYV.out, burst_skip HBU.out, HOR.out, HBR.out⟩
            case measure => simp [intOf]; omega
        · have hcase : ¬ (k : Int) < 32 ∨ ((k : Int) < 32 ∧ ¬ (a : Int) + (k : Int) < (n : Int)) := by omega
          obtain ⟨z, hz⟩ : ∃ z : Int, z = ((crc ys).toNat : Int) := ⟨_, rfl⟩
          have zw : (z != was) = any := by
            rw [hz, HWAS.out]
            cases any with
            | true => exact bne_iff_ne.2 (burst_told HBU.out)
            | false => exact bne_eq_false_iff_eq.2 (burst_none HBU.out)
          have HS5 : Hid (Calls Try.prog 9 #[.slice (some ⟨g4, 0, none⟩) xs.length cap4] wr fun e w' => e = .returned (.int .u32 z) ∧ Below wr.heap.size wr w') := by
            have h := sum_reads ys (some ⟨g4, 0, none⟩) cap4 wr (own_reads (HYL.out ▸ HOR.out) (by simp)) HYV.out
            rw [HYL.out] at h
            rw [hz]; exact h
          clear hin hz
          rcases hcase with p1 | ⟨p1, p2⟩
          · go_wp2_with fail
            refine HS5.out.mono ?_; rintro e w5 ⟨rfl, hb5⟩
            have HB5 := Lib.hid (HBR.out.trans (hb5.mono HBR.out.size))
            have z3 := KEEP.out w5 HB5.out 3 _ HX3.out
            have z4 := KEEP.out w5 HB5.out 4 _ HX4.out
            have z0 := KEEP.out w5 HB5.out 0 _ HX0.out
            clear hb5 z2
            have HT := Lib.hid (turned_calls xs A c b w5 W0.heap.size HB5.out.size (reads_keep HR.out (HB0.out.trans (HB5.out.mono (by have := HSZ.out; omega)))) (by omega) (by have := HBL.out; have := HN.out; omega))
            go_wp2_with fail
            refine (HP2.out _).mono ?_; rintro e w5' ⟨rfl, rfl⟩
            go_wp2_with fail
            refine (HP3.out _).mono ?_; rintro e w5'' ⟨rfl, rfl⟩
            go_wp2_with fail
            refine HT.out.mono ?_; rintro e w6 ⟨v6, rfl, ho6, hb6⟩
            obtain ⟨g6, cap6, rfl, _, _⟩ := ho6.form (by have := H0.out; omega)
            have HB6 := Lib.hid (HB5.out.trans hb6)
            have HO6 := Lib.hid ho6
            have HT7 := turned_calls (flip xs b) (some ⟨g6, 0, none⟩) cap6 d w6 w6.heap.size (Nat.le_refl _) (by rw [flip_length]; have h := own_reads (xs := flip xs b) ho6 (by rw [List.take_length]); rwa [flip_length] at h) (by rw [flip_length]; omega) (by rw [flip_length]; have := HDL.out; have := HN.out; omega)
            rw [flip_length] at HT7
            have HT8 := Lib.hid HT7
            clear hb6 ho6 HT7 z0 z3 z4
            go_wp2_with fail
            refine HT8.out.mono ?_; rintro e w7 ⟨v7, rfl, ho7, hb7⟩
            obtain ⟨g7, cap7, rfl, _, _⟩ := ho7.form (by have := H0.out; omega)
            have HB7 := Lib.hid (HB6.out.trans (hb7.mono HB6.out.size))
            have HO7 := Lib.hid ho7
            obtain ⟨zd, hzd⟩ : ∃ z : Int, z = ((crc (flip xs b)).toNat : Int) := ⟨_, rfl⟩
            obtain ⟨ze, hze⟩ : ∃ z : Int, z = ((crc (flip (flip xs b) d)).toNat : Int) := ⟨_, rfl⟩
            have k1 : (zd != was) = true := by rw [hzd, HWAS.out]; exact bne_iff_ne.2 (flip_one xs HV.out b (by have := HBL.out; have := HN.out; omega))
            have k2 : (ze == was) = ((b : Int) == (d : Int)) := by
              rw [hze, HWAS.out, Bool.eq_iff_iff, beq_iff_eq, beq_iff_eq, flip_two xs HV.out b d (by have := HBL.out; have := HN.out; omega) (by have := HDL.out; have := HN.out; omega) (by omega)]
              omega
            have HS8 : Hid (∀ W, W.ownsRow W0.heap.size 5 1 (.slice (some ⟨g6, 0, none⟩) xs.length cap6) xs.length (encs I (flip xs b)) → Calls Try.prog 9 #[.slice (some ⟨g6, 0, none⟩) xs.length cap6] W fun e w' => e = .returned (.int .u32 zd) ∧ Below W.heap.size W w') := fun W hW => by
              have h := sum_reads (flip xs b) (some ⟨g6, 0, none⟩) cap6 W (by rw [flip_length]; have h := own_reads (xs := flip xs b) hW (by rw [List.take_length]); rwa [flip_length] at h) (flip_byt HV.out _)
              rw [flip_length] at h
              rw [hzd]; exact h
            have HS9 : Hid (∀ W, W.ownsRow w6.heap.size 5 1 (.slice (some ⟨g7, 0, none⟩) xs.length cap7) xs.length (encs I (flip (flip xs b) d)) → Calls Try.prog 9 #[.slice (some ⟨g7, 0, none⟩) xs.length cap7] W fun e w' => e = .returned (.int .u32 ze) ∧ Below W.heap.size W w') := fun W hW => by
              have h := sum_reads (flip (flip xs b) d) (some ⟨g7, 0, none⟩) cap7 W (by rw [flip_length, flip_length]; have h := own_reads (xs := flip (flip xs b) d) hW (by rw [List.take_length]); rwa [flip_length, flip_length] at h) (flip_byt (flip_byt HV.out _) _)
              rw [flip_length, flip_length] at h
              rw [hze]; exact h
            clear ho7 hzd hze
            have HO6' := Lib.hid (pw_own_below HO6.out hb7)
            clear hb7
            go_wp2_with fail
            refine (HS8.out _ HO6'.out).mono ?_; rintro e w8 ⟨rfl, hb8⟩
            have HB8 := Lib.hid (HB7.out.trans (hb8.mono HB7.out.size))
            have HO7' := Lib.hid (pw_own_below HO7.out hb8)
            clear hb8
            go_wp2_with fail
            refine (HS9.out _ HO7'.out).mono ?_; rintro e w9 ⟨rfl, hb9⟩
            have HB9 := Lib.hid (HB8.out.trans (hb9.mono HB8.out.size))
            clear hb9
            go_wp2_with fail
            go_ret
            exact ⟨by simp, HB0.out.trans (HB9.out.mono (by have := HSZ.out; omega))⟩
          · go_wp2_with fail
            refine HS5.out.mono ?_; rintro e w5 ⟨rfl, hb5⟩
            have HB5 := Lib.hid (HBR.out.trans (hb5.mono HBR.out.size))
            have z3 := KEEP.out w5 HB5.out 3 _ HX3.out
            have z4 := KEEP.out w5 HB5.out 4 _ HX4.out
            have z0 := KEEP.out w5 HB5.out 0 _ HX0.out
            clear hb5 z2
            have HT := Lib.hid (turned_calls xs A c b w5 W0.heap.size HB5.out.size (reads_keep HR.out (HB0.out.trans (HB5.out.mono (by have := HSZ.out; omega)))) (by omega) (by have := HBL.out; have := HN.out; omega))
            go_wp2_with fail
            refine (HP2.out _).mono ?_; rintro e w5' ⟨rfl, rfl⟩
            go_wp2_with fail
            refine (HP3.out _).mono ?_; rintro e w5'' ⟨rfl, rfl⟩
            go_wp2_with fail
            refine HT.out.mono ?_; rintro e w6 ⟨v6, rfl, ho6, hb6⟩
            obtain ⟨g6, cap6, rfl, _, _⟩ := ho6.form (by have := H0.out; omega)
            have HB6 := Lib.hid (HB5.out.trans hb6)
            have HO6 := Lib.hid ho6
            have HT7 := turned_calls (flip xs b) (some ⟨g6, 0, none⟩) cap6 d w6 w6.heap.size (Nat.le_refl _) (by rw [flip_length]; have h := own_reads (xs := flip xs b) ho6 (by rw [List.take_length]); rwa [flip_length] at h) (by rw [flip_length]; omega) (by rw [flip_length]; have := HDL.out; have := HN.out; omega)
            rw [flip_length] at HT7
            have HT8 := Lib.hid HT7
            clear hb6 ho6 HT7 z0 z3 z4
            go_wp2_with fail
            refine HT8.out.mono ?_; rintro e w7 ⟨v7, rfl, ho7, hb7⟩
            obtain ⟨g7, cap7, rfl, _, _⟩ := ho7.form (by have := H0.out; omega)
            have HB7 := Lib.hid (HB6.out.trans (hb7.mono HB6.out.size))
            have HO7 := Lib.hid ho7
            obtain ⟨zd, hzd⟩ : ∃ z : Int, z = ((crc (flip xs b)).toNat : Int) := ⟨_, rfl⟩
            obtain ⟨ze, hze⟩ : ∃ z : Int, z = ((crc (flip (flip xs b) d)).toNat : Int) := ⟨_, rfl⟩
            have k1 : (zd != was) = true := by rw [hzd, HWAS.out]; exact bne_iff_ne.2 (flip_one xs HV.out b (by have := HBL.out; have := HN.out; omega))
            have k2 : (ze == was) = ((b : Int) == (d : Int)) := by
              rw [hze, HWAS.out, Bool.eq_iff_iff, beq_iff_eq, beq_iff_eq, flip_two xs HV.out b d (by have := HBL.out; have := HN.out; omega) (by have := HDL.out; have := HN.out; omega) (by omega)]
              omega
            have HS8 : Hid (∀ W, W.ownsRow W0.heap.size 5 1 (.slice (some ⟨g6, 0, none⟩) xs.length cap6) xs.length (encs I (flip xs b)) → Calls Try.prog 9 #[.slice (some ⟨g6, 0, none⟩) xs.length cap6] W fun e w' => e = .returned (.int .u32 zd) ∧ Below W.heap.size W w') := fun W hW => by
              have h := sum_reads (flip xs b) (some ⟨g6, 0, none⟩) cap6 W (by rw [flip_length]; have h := own_reads (xs := flip xs b) hW (by rw [List.take_length]); rwa [flip_length] at h) (flip_byt HV.out _)
              rw [flip_length] at h
              rw [hzd]; exact h
            have HS9 : Hid (∀ W, W.ownsRow w6.heap.size 5 1 (.slice (some ⟨g7, 0, none⟩) xs.length cap7) xs.length (encs I (flip (flip xs b) d)) → Calls Try.prog 9 #[.slice (some ⟨g7, 0, none⟩) xs.length cap7] W fun e w' => e = .returned (.int .u32 ze) ∧ Below W.heap.size W w') := fun W hW => by
              have h := sum_reads (flip (flip xs b) d) (some ⟨g7, 0, none⟩) cap7 W (by rw [flip_length, flip_length]; have h := own_reads (xs := flip (flip xs b) d) hW (by rw [List.take_length]); rwa [flip_length, flip_length] at h) (flip_byt (flip_byt HV.out _) _)
              rw [flip_length, flip_length] at h
              rw [hze]; exact h
            clear ho7 hzd hze
            have HO6' := Lib.hid (pw_own_below HO6.out hb7)
            clear hb7
            go_wp2_with fail
            refine (HS8.out _ HO6'.out).mono ?_; rintro e w8 ⟨rfl, hb8⟩
            have HB8 := Lib.hid (HB7.out.trans (hb8.mono HB7.out.size))
            have HO7' := Lib.hid (pw_own_below HO7.out hb8)
            clear hb8
            go_wp2_with fail
            refine (HS9.out _ HO7'.out).mono ?_; rintro e w9 ⟨rfl, hb9⟩
            have HB9 := Lib.hid (HB8.out.trans (hb9.mono HB8.out.size))
            clear hb9
            go_wp2_with fail
            go_ret
            exact ⟨by simp, HB0.out.trans (HB9.out.mono (by have := HSZ.out; omega))⟩
end Go.Proofs.Ytedbpagjhnkdbaa.CodeTold
