/- Contract of a Reader's Var: a number in its shortest form. -/
import Derived.Test.YtoeiaimoppmjdaaDoorRdr2
namespace Go.Proofs.YtoeiaimoppmjdaaDoor.Wr
open Go.RowKit Go.Proofs.YtoeiaimoppmjdaaDoorW.PrintWords Go.Proofs.YtoeiaimoppmjdaaDoor.Bytes
open Go.Sort (grow)
set_option linter.unusedVariables false
set_option linter.unusedSimpArgs false
theorem rdr_regrown {W : World} {base g : Nat} {v : Value} {xs : List Int} {a m : Int} (h : Rdr W base g v xs a m) (d : Nat) (os : Array Obj) : Rdr (grow (redrawn W d) os) base g v xs a m := rdr_below h (below_regrown W d os)
set_option maxRecDepth 100000 in
set_option maxHeartbeats 3200000 in
theorem varR_calls (W : World) (base g : Nat) (v : Value) (xs : List Int) (s : RS) (most : Nat) (h : Rdr W base g v xs s.at_ s.met) (hs : s.Ok xs) (hb : base ≤ W.heap.size) (hx : Byt xs) (hxl : xs.length ≤ 140737488355328) :
    Calls Tryd.prog 69 #[.pointer (some ⟨g, 0, none⟩), .int .u64 (most : Int)] W fun e w' => e = .returned (.int .u64 ((rVar xs s most).1 : Int)) ∧ RdTo W w' base g v xs (rVar xs s most).2 := by
  obtain ⟨a, m⟩ := s
  by_cases hm : m = 0
  · subst hm
    obtain ⟨A, c, rfl, hr⟩ := reads_of_own h.own
    have hal : a ≤ xs.length := hs.at_
    have hcap : xs.length ≤ c := by
      rcases h.own.2 with ⟨e, e2⟩ | ⟨_, _, _, e, _, _, h5, _⟩
      · omega
      · injection e with _ _ e; omega
    obtain ⟨l, hl⟩ : ∃ l, l = xs.drop a := ⟨_, rfl⟩
    have hll : l.length = xs.length - a := by rw [hl]; simp
    obtain ⟨n, hn⟩ : ∃ n, n = min 10 l.length := ⟨_, rfl⟩
    have hbl : Byt l := by rw [hl]; exact byt_drop hx a
    obtain ⟨i0, hi0, _, hs0, _⟩ := info_parts info5
    have hna : a + n ≤ xs.length := by omega
    have q : ∀ W : World, (Instr.slice 22 (.slice A xs.length c) (some (.int .i64 (a : Int))) (some (.int .i64 ((a : Int) + (n : Int)))) none).run Tryd.prog W = .ok (.slice (if c = a then A else A.map (·.add (a * 1))) n (c - a)) W := fun W => by
      have h := cut_mid (P := Tryd.prog) 22 5 .i64 .i64 Tryd.underlying22 hi0 1 hs0 A xs.length c (a : Int) ((a : Int) + n) (by omega) (by omega) (by omega) hcap W
      rw [Int.toNat_natCast, show ((a : Int) + (n : Int)).toNat - a = n by omega] at h
      exact h
    have hcut : ReadsOf I 0 W (if c = a then A else A.map (·.add (a * 1))) n ((xs.drop a).take n) := cut_reads (len := 0) h.own a n hna
    obtain ⟨A2, hA2⟩ : ∃ A2, A2 = (if c = a then A else A.map (·.add (a * 1))) := ⟨_, rfl⟩
    rw [← hA2, ← hl] at hcut
    simp only [← hA2] at q
    have HCUT := Lib.hid hcut
    have CL : ∀ d os, Calls Tryd.prog 17 #[.pointer (some ⟨g, 0, none⟩)] (grow (redrawn W d) os) fun e w'' => e = .returned (.int .i64 ((xs.length : Int) - (a : Int))) ∧ ∃ p : Regrown, w'' = grow (redrawn W p.d) p.os := fun d os =>
      Gen.calls_regrown ((left_calls (grow (redrawn W d) os) base g _ xs a 0 (rdr_regrown h d os) (by omega) (by omega)).mono fun e w' ⟨he, hb⟩ => ⟨he, (below_regrown W d os).trans (hb.mono (below_regrown W d os).size)⟩)
    have c2 := blk_cell h.blk 2
    have d0 := blk_cell h.blk 0
    have d1 := blk_cell h.blk 1
    simp at c2 d0 d1
    have y0 := cell_regrown d0
    have y1 := cell_regrown d1
    have hminl : min (10 : Int) ((xs.length : Int) - (a : Int)) = (n : Int) := by omega
    have p2 : IntKind.i64.wrap ((a : Int) + (n : Int)) = (a : Int) + (n : Int) := wrap_in (by omega) (by omega)
    have H := Lib.hid h
    have HB := Lib.hid hb
    have HBL := Lib.hid hbl
    have HL := Lib.hid hl
    have HN := Lib.hid hn
    have HLL := Lib.hid hll
    have hn10 : n ≤ 10 := by omega
    have hnl : n ≤ l.length := by omega
    clear h hs hb hx hr hal hcap hl hll hn hbl hna hcut hA2 d0 d1 hi0 hs0
    go_enter Tryd.func69, Tryd.ntmps69
    go_wp2_with fail
    refine wp_region_quiet_below (by kernel_rfl) (by kernel_rfl) ?_
    repeat (quiet_step (first | with_reducible exact CL _ _))
    refine wpQuiet_nil ?_
    intro w1 hw'
    have hb1 : Below W.heap.size W w1 := by obtain ⟨⟨dq, osq⟩, hw''⟩ := hw'; rw [hw'']; exact below_regrown W dq osq
    have H1 := Lib.hid (rdr_below H.out hb1)
    have HC1 := Lib.hid (Gen.reads_below HCUT.out hb1)
    have HB1 := Lib.hid hb1
    clear hw' hb1 y0 y1 CL q p2 c2
    go_wp2_with fail
    go_loop [5, 33] (fun u j => ∃ k nn : Nat, u = .int .u64 (nn : Int) ∧ j = .int .i64 (k : Int) ∧ k ≤ n ∧ nn < 128 ^ k ∧ varR most l 0 0 = varR most (l.drop k) k nn) (fun _ j => n - (intOf j).toNat)
    case atStart => exact ⟨0, 0, rfl, rfl, Nat.zero_le _, by simp, by simp⟩
    case round =>
      obtain ⟨k, nn, rfl, rfl, hk, hnn, hvr⟩ := hrel
      have HVR := Lib.hid hvr
      have HNN := Lib.hid hnn
      clear hvr hnn
      by_cases hlt : k < n
      · obtain ⟨ad, hA, hc⟩ := HC1.out.2.2 (by omega)
        subst hA
        have hkl : k < l.length := by omega
        have hx1 := hc k hlt
        have hbk := byt_get HBL.out k hkl
        have hg : (l.take n).getD k 0 = l.getD k 0 := by simp [List.getD_eq_getElem?_getD, List.getElem?_take, hlt]
        rw [hg] at hx1
        obtain ⟨cc, hcc⟩ := Int.eq_ofNat_of_zero_le hbk.1
        have hc255 : cc < 256 := by omega
        rw [hcc] at hx1
        have HDR : Hid (l.drop k = (cc : Int) :: l.drop (k + 1)) := by
          show _ = _
          rw [List.drop_eq_getElem_cons hkl]
          congr 1
          rw [← hcc, List.getD_eq_getElem?_getD, List.getElem?_eq_getElem hkl]; rfl
        have i1 : (k : Int) < (n : Int) := by omega
        have i2 : (0 : Int) ≤ (k : Int) := by omega
        have cb : (cc : Int) ≤ 255 := by omega
        have hk9 : (k : Int) ≤ 9 := by omega
        clear hg hbk hcc hc
        by_cases hbr : k = 9 ∧ 1 < cc
        · obtain ⟨h9, h1⟩ := hbr
          have h2 : (1 : Int) < (cc : Int) := by omega
          have h9t : ((k : Int) == 9) = true := by simp; omega
          have hn10' : ¬ (n : Int) < 10 := by omega
          have HE : Hid (rVar xs ⟨a, 0⟩ most = (0, ⟨a, 2⟩)) := by
            show _ = _
            have e : varR most l 0 0 = .bad 2 := by
              rw [HVR.out, HDR.out, varR, if_neg (by omega), if_pos ⟨h9, by omega⟩]
            unfold rVar
            rw [← HL.out, e]; rfl
          have CS := Lib.hid (stop_calls w1 base g _ xs ⟨a, 0⟩ a 2 H1.out)
          have e1 := blk_cell H1.out.blk 1
          simp at e1
          clear h9 h1
          go_wp2_with fail
          refine CS.out.mono ?_; rintro e w2 ⟨rfl, h2⟩
          have H2 := Lib.hid h2
          clear h2
          go_wp2_with fail
          go_ret
          rw [HE.out]
          exact ⟨rfl, ((RdTo.refl (s := ⟨a, 0⟩) H.out).below HB.out HB1.out).trans H2.out⟩
        · obtain ⟨n1, hn1⟩ : ∃ n1, n1 = nn + (cc % 128) * 128 ^ k := ⟨_, rfl⟩
          have hcase : ((k : Int) == 9) = false ∨ (((k : Int) == 9) = true ∧ ¬ (1 : Int) < (cc : Int)) := by
            by_cases h9 : k = 9
            · exact .inr ⟨by simp; omega, by omega⟩
            · exact .inl (by simp; omega)
          have hlt64 : nn + (cc % 128) * 128 ^ k < 18446744073709551616 := by
            by_cases h9 : k = 9
            · subst h9
              have h1 : nn < 128 ^ 9 := HNN.out
              have h2 : cc % 128 ≤ 1 := by omega
              have h3 := Nat.mul_le_mul_right (128 ^ 9) h2
              have h4 : (128 : Nat) ^ 9 = 9223372036854775808 := by decide
              rw [h4] at h1 h3 ⊢
              omega
            · have h1 : nn < 128 ^ k := HNN.out
              have h2 : cc % 128 + 1 ≤ 128 := by omega
              have h3 := Nat.mul_le_mul_right (128 ^ k) h2
              have h4 : (128 : Nat) * 128 ^ k ≤ 128 ^ 9 := by rw [Nat.mul_comm, ← Nat.pow_succ]; exact Nat.pow_le_pow_right (by omega) (by omega)
              have h5 : (128 : Nat) ^ 9 = 9223372036854775808 := by decide
              rw [Nat.add_mul] at h3
              omega
          have hn1k : n1 < 128 ^ (k + 1) := by
            have h1 : nn < 128 ^ k := HNN.out
            have h2 : cc % 128 + 1 ≤ 128 := by omega
            have h3 := Nat.mul_le_mul_right (128 ^ k) h2
            rw [Nat.add_mul] at h3
            rw [Nat.pow_succ, Nat.mul_comm (128 ^ k), hn1]
            omega
          obtain ⟨dd, hdd⟩ : ∃ dd, dd = cc % 128 := ⟨_, rfl⟩
          have e1 : Go.bits .and .u8 (cc : Int) 127 = (dd : Int) := by rw [u8_and127 cc hc255, hdd]
          have qs : Go.bits .or .u64 (nn : Int) (IntKind.u64.wrap ((dd : Int) * 2 ^ (7 * k))) = (n1 : Int) := by
            have e1 : (dd : Int) * 2 ^ (7 * k) = ((dd * 128 ^ k : Nat) : Int) := by
              rw [show (128 : Nat) = 2 ^ 7 from rfl, ← Nat.pow_mul]; simp
            rw [e1, IntKind.wrap_u64, Int.emod_eq_of_lt (by omega) (by rw [hdd]; omega), u64_shift_or nn dd k HNN.out (by omega) (by rw [hdd]; exact hlt64), hn1, hdd]
          have qs2 : Go.bits .or .u64 (nn : Int) ((dd : Int) * 2 ^ (7 * k)) = (n1 : Int) := by
            have e1 : (dd : Int) * 2 ^ (7 * k) = ((dd * 128 ^ k : Nat) : Int) := by
              rw [show (128 : Nat) = 2 ^ 7 from rfl, ← Nat.pow_mul]; simp
            rw [e1, u64_shift_or nn dd k HNN.out (by omega) (by rw [hdd]; exact hlt64), hn1, hdd]
          have hdd2 : (dd : Int) ≤ 127 := by omega
          have HVN : Hid (varR most l 0 0 = if 128 ≤ cc then varR most (l.drop (k + 1)) (k + 1) n1 else if cc = 0 ∧ 0 < k then .bad 2 else if most < n1 then .bad 3 else .ok n1 (k + 1)) := by
            show _ = _
            rw [HVR.out, HDR.out, varR, if_neg (by omega), if_neg (by omega)]
            simp only [Int.toNat_natCast, ← hn1]
            by_cases g1 : 128 ≤ cc
            · rw [if_pos g1, if_pos (by omega)]
            · rw [if_neg g1, if_neg (by omega)]
              by_cases g2 : cc = 0 ∧ 0 < k
              · rw [if_pos g2, if_pos (by omega)]
              · rw [if_neg g2, if_neg (by omega)]
          have HN1 := Lib.hid hn1k
          have hn1b : (n1 : Int) ≤ 18446744073709551615 := by omega
          clear hbr hn1 hlt64 hn1k hdd
          have ea := u8_and128 cc hc255
          by_cases hgo : 128 ≤ cc
          · have ea2 : Go.bits .and .u8 (cc : Int) 128 = 128 := by rw [ea, if_pos hgo]
            clear ea
            rcases hcase with h9 | ⟨h9, h8⟩
            all_goals
              go_wp2_with fail
              go_round
              case rel => exact ⟨k + 1, n1, rfl, by go_num, by omega, HN1.out, by rw [HVN.out, if_pos hgo]⟩
              case measure => simp [intOf]; omega
          · have ea2 : Go.bits .and .u8 (cc : Int) 128 = 0 := by rw [ea, if_neg hgo]
            clear ea
            have w1c := blk_cell H1.out.blk 1
            have w1f := blk_frozen H1.out.blk 1
            simp at w1c
            by_cases hz : cc = 0 ∧ 0 < k
            · have HE : Hid (rVar xs ⟨a, 0⟩ most = (0, ⟨a, 2⟩)) := by
                show _ = _
                have e : varR most l 0 0 = .bad 2 := by rw [HVN.out, if_neg hgo, if_pos hz]
                unfold rVar
                rw [← HL.out, e]; rfl
              have CS := Lib.hid (stop_calls w1 base g _ xs ⟨a, 0⟩ a 2 H1.out)
              obtain ⟨h0, hk0⟩ := hz
              have z1 : ((cc : Int) == 0) = true := by simp; omega
              have z2 : (0 : Int) < (k : Int) := by omega
              clear h0
              rcases hcase with h9 | ⟨h9, h8⟩
              all_goals
                go_wp2_with fail
                refine CS.out.mono ?_; rintro e w2 ⟨rfl, h2⟩
                have H2 := Lib.hid h2
                clear h2
                go_wp2_with fail
                go_ret
                rw [HE.out]
                exact ⟨rfl, ((RdTo.refl (s := ⟨a, 0⟩) H.out).below HB.out HB1.out).trans H2.out⟩
            · have hzc : ((cc : Int) == 0) = false ∨ (((cc : Int) == 0) = true ∧ ¬ (0 : Int) < (k : Int)) := by
                by_cases h0 : cc = 0
                · exact .inr ⟨by simp; omega, by omega⟩
                · exact .inl (by simp; omega)
              by_cases hmo : most < n1
              · have HE : Hid (rVar xs ⟨a, 0⟩ most = (0, ⟨a, 3⟩)) := by
                  show _ = _
                  have e : varR most l 0 0 = .bad 3 := by rw [HVN.out, if_neg hgo, if_neg hz, if_pos hmo]
                  unfold rVar
                  rw [← HL.out, e]; rfl
                have CS := Lib.hid (stop_calls w1 base g _ xs ⟨a, 0⟩ a 3 H1.out)
                have m1 : (most : Int) < (n1 : Int) := by omega
                clear hz hmo
                rcases hcase with h9 | ⟨h9, h8⟩ <;> rcases hzc with z1 | ⟨z1, z2⟩
                all_goals
                  go_wp2_with fail
                  refine CS.out.mono ?_; rintro e w2 ⟨rfl, h2⟩
                  have H2 := Lib.hid h2
                  clear h2
                  go_wp2_with fail
                  go_ret
                  rw [HE.out]
                  exact ⟨rfl, ((RdTo.refl (s := ⟨a, 0⟩) H.out).below HB.out HB1.out).trans H2.out⟩
              · have HE : Hid (rVar xs ⟨a, 0⟩ most = (n1, ⟨a + (k + 1), 0⟩)) := by
                  show _ = _
                  have e : varR most l 0 0 = .ok n1 (k + 1) := by rw [HVN.out, if_neg hgo, if_neg hz, if_neg hmo]
                  unfold rVar
                  rw [← HL.out, e]; rfl
                have m1 : ¬ (most : Int) < (n1 : Int) := by omega
                have HP := Lib.hid (rdto_put ((RdTo.refl (s := ⟨a, 0⟩) H.out).below HB.out HB1.out) (a + (k + 1)))
                have wk : (a : Int) ≤ 140737488355328 := by have := HLL.out; omega
                have hxl2 := Lib.hid hxl
                clear hz hmo hn1b hxl
                rcases hcase with h9 | ⟨h9, h8⟩ <;> rcases hzc with z1 | ⟨z1, z2⟩
                all_goals
                  go_wp2_with fail
                  go_ret
                  rw [HE.out]
                  exact ⟨rfl, by have := HP.out; simpa using this⟩
      · have hke : k = n := by omega
        have HE : Hid (rVar xs ⟨a, 0⟩ most = (0, ⟨a, if n < 10 then 1 else 2⟩)) := by
          show _ = _
          have e : varR most l 0 0 = .bad (if n < 10 then 1 else 2) := by
            rw [HVR.out, hke]
            by_cases h10 : n < 10
            · rw [if_pos h10]
              have : l.drop n = [] := by apply List.drop_of_length_le; have := HN.out; omega
              rw [this, varR, if_pos h10]
            · rw [if_neg h10]
              cases hd : l.drop n with
              | nil => rw [varR, if_neg h10]
              | cons c t => rw [varR, if_pos (by omega)]
          unfold rVar
          rw [← HL.out, e]; rfl
        have i1 : ¬ (k : Int) < (n : Int) := by omega
        have w1c := blk_cell H1.out.blk 1
        simp at w1c
        clear hke hlt
        by_cases h10 : n < 10
        · have CS := Lib.hid (stop_calls w1 base g _ xs ⟨a, 0⟩ a 1 H1.out)
          rw [if_pos h10] at HE
          have i2 : (n : Int) < 10 := by omega
          clear h10
          go_wp2_with fail
          refine CS.out.mono ?_; rintro e w2 ⟨rfl, h2⟩
          have H2 := Lib.hid h2
          clear h2
          go_wp2_with fail
          go_ret
          rw [HE.out]
          exact ⟨rfl, ((RdTo.refl (s := ⟨a, 0⟩) H.out).below HB.out HB1.out).trans H2.out⟩
        · have CS := Lib.hid (stop_calls w1 base g _ xs ⟨a, 0⟩ a 2 H1.out)
          rw [if_neg h10] at HE
          have i2 : ¬ (n : Int) < 10 := by omega
          clear h10
          go_wp2_with fail
          refine CS.out.mono ?_; rintro e w2 ⟨rfl, h2⟩
          have H2 := Lib.hid h2
          clear h2
          go_wp2_with fail
          go_ret
          rw [HE.out]
          exact ⟨rfl, ((RdTo.refl (s := ⟨a, 0⟩) H.out).below HB.out HB1.out).trans H2.out⟩
  · have hm' : ¬ (m : Int) = 0 := by omega
    rw [rVar_stopped hm]
    have c2 := blk_cell h.blk 2
    simp at c2
    have H := Lib.hid (RdTo.refl (s := ⟨a, m⟩) h)
    clear h hs hb hx hm hxl
    go_enter Tryd.func69, Tryd.ntmps69
    go_wp2_with fail
    go_ret
    exact ⟨rfl, H.out⟩
end Go.Proofs.YtoeiaimoppmjdaaDoor.Wr
