/- CodeStops: behind the first fault nothing is read any more, whatever is asked. -/
import Derived.Test.YtoeiaimoppmjdaaDoorArgs
import Derived.Below
namespace Go.Proofs.YtoeiaimoppmjdaaDoor.CodeStops
open Go.RowKit Go.Proofs.YtoeiaimoppmjdaaDoorW.PrintWords Go.Proofs.YtoeiaimoppmjdaaDoor.Bytes Go.Proofs.YtoeiaimoppmjdaaDoor.Wr Go.Proofs.YtoeiaimoppmjdaaDoor.Args
set_option linter.unusedVariables false
set_option linter.unusedSimpArgs false
theorem num_calls (e : Int) (w : World) : Calls Tryd.prog 21 #[.int .i64 e] w fun x w' => x = .returned (.int .i64 e) ∧ w' = w := by
  go_enter Tryd.func21, Tryd.ntmps21
  go_wp2_with fail
  go_ret
  exact ⟨rfl, rfl⟩
set_option maxRecDepth 20000 in
set_option maxHeartbeats 1600000 in
theorem silent_calls (W : World) (base g : Nat) (v : Value) (xs : List Int) (s : RS) (o : CO) (B : Value) (h : Rdr W base g v xs s.at_ s.met) (hs : s.Ok xs) (hb : base ≤ W.heap.size) (hx : Byt xs) (hxl : xs.length ≤ 140737488355328) (hm : s.met ≠ 0) (h1 : B.oneCell' = true)
    (hM : I64 o.2.2.1) (hN : 0 ≤ o.2.2.2.1) :
    Calls Tryd.prog 26 #[.pointer (some ⟨g, 0, none⟩), .agg #[.int .i64 o.1, .int .i64 o.2.1, .int .i64 o.2.2.1, .int .u64 o.2.2.2.1, B]] W fun e w' => e = .returned (.bool true) ∧ RdTo W w' base g v xs s := by
  obtain ⟨kind, which, M, N, bs⟩ := o
  obtain ⟨n, rfl⟩ := Int.eq_ofNat_of_zero_le hN
  obtain ⟨W1, hW1⟩ : ∃ W1, W1 = W.alloc (.cells #[.int .i64 kind, .int .i64 which, .int .i64 M, .int .u64 (n : Int), B] 39) := ⟨_, rfl⟩
  have hb1 : Below W.heap.size W W1 := by rw [hW1]; exact (Below.refl _ _).alloc (Nat.le_refl _) _
  have hk := blk_new W (.cells #[.int .i64 kind, .int .i64 which, .int .i64 M, .int .u64 (n : Int), B] 39)
  rw [← hW1] at hk
  have h0 := blk_cell hk 0
  have h2 := blk_cell hk 2
  have h3 := blk_cell hk 3
  simp at h0 h2 h3
  have hr1 := rdr_below h hb1
  have hB1 := Nat.le_trans hb hb1.size
  have C8 := Lib.hid (rd8_calls W1 base g v xs s hr1 hs hB1 hx)
  have C32 := Lib.hid (rd32_calls W1 base g v xs s hr1 hs hB1 hx)
  have C64 := Lib.hid (rd64_calls W1 base g v xs s hr1 hs hB1 hx)
  have CV := Lib.hid (varR_calls W1 base g v xs s n hr1 hs hB1 hx hxl)
  have CB := Lib.hid (bytesR_calls W1 base g v xs s M hr1 hs hB1 hx hxl hM.1 hM.2)
  have CR := Lib.hid (rawR_calls W1 base g v xs s M hr1 hs hB1 hxl)
  rw [rFix_stopped hm] at C8 C32 C64
  rw [rVar_stopped hm] at CV
  rw [rBytes_stopped hm] at CB
  rw [rRaw_stopped hm] at CR
  have R1 := Lib.hid ((RdTo.refl h).below hb hb1)
  have HW1 := Lib.hid hW1
  clear h hs hb hx hm hr1 hB1 hk hb1 hM hN hW1
  by_cases k1 : kind = 1
  · subst k1
    go_enter Tryd.func26, Tryd.ntmps26
    go_wp2_with fail
    rw [← HW1.out]
    go_wp2_with fail
    refine C8.out.mono ?_; rintro e w1 ⟨rfl, h1⟩
    have H1 := Lib.hid (R1.out.trans h1)
    clear h1
    go_wp2_with fail
    go_ret
    exact ⟨rfl, H1.out⟩
  by_cases k2 : kind = 2
  · subst k2
    go_enter Tryd.func26, Tryd.ntmps26
    go_wp2_with fail
    rw [← HW1.out]
    go_wp2_with fail
    refine C32.out.mono ?_; rintro e w1 ⟨rfl, h1⟩
    have H1 := Lib.hid (R1.out.trans h1)
    clear h1
    go_wp2_with fail
    go_ret
    exact ⟨rfl, H1.out⟩
  by_cases k3 : kind = 3
  · subst k3
    go_enter Tryd.func26, Tryd.ntmps26
    go_wp2_with fail
    rw [← HW1.out]
    go_wp2_with fail
    refine C64.out.mono ?_; rintro e w1 ⟨rfl, h1⟩
    have H1 := Lib.hid (R1.out.trans h1)
    clear h1
    go_wp2_with fail
    go_ret
    exact ⟨rfl, H1.out⟩
  by_cases k4 : kind = 4
  · subst k4
    go_enter Tryd.func26, Tryd.ntmps26
    go_wp2_with fail
    rw [← HW1.out]
    go_wp2_with fail
    refine CV.out.mono ?_; rintro e w1 ⟨rfl, h1⟩
    have H1 := Lib.hid (R1.out.trans h1)
    clear h1
    go_wp2_with fail
    go_ret
    exact ⟨rfl, H1.out⟩
  by_cases k5 : kind = 5
  · subst k5
    go_enter Tryd.func26, Tryd.ntmps26
    go_wp2_with fail
    rw [← HW1.out]
    go_wp2_with fail
    refine CB.out.mono ?_; rintro e w1 ⟨u, rfl, hu, h1⟩
    obtain ⟨Au, cu, rfl, _⟩ := reads_of_own hu
    have H1 := Lib.hid (R1.out.trans h1)
    clear h1 hu
    go_wp2_with fail
    go_ret
    exact ⟨rfl, H1.out⟩
  · go_enter Tryd.func26, Tryd.ntmps26
    go_wp2_with fail
    rw [← HW1.out]
    go_wp2_with fail
    refine CR.out.mono ?_; rintro e w1 ⟨u, rfl, hu, h1⟩
    obtain ⟨Au, cu, rfl, _⟩ := reads_of_own hu
    have H1 := Lib.hid (R1.out.trans h1)
    clear h1 hu
    go_wp2_with fail
    go_ret
    exact ⟨rfl, H1.out⟩
/-- Behind j numbers of eight bytes. -/
def afterJ (L j : Nat) : RS := if j ≤ L / 8 then ⟨8 * j, 0⟩ else ⟨8 * (L / 8), 1⟩
theorem afterJ_step (xs : List Int) (j : Nat) (hj : j ≤ xs.length / 8) : (rFix xs (afterJ xs.length j) 8).2 = afterJ xs.length (j + 1) := by
  unfold afterJ
  rw [if_pos hj]
  unfold rFix
  rw [if_pos rfl]
  by_cases h : j + 1 ≤ xs.length / 8
  · rw [if_pos h, if_pos (by simp; omega)]; simp only [Nat.mul_add]
  · rw [if_neg h, if_neg (by simp; omega)]
    have : j = xs.length / 8 := by omega
    rw [this]
theorem afterJ_ok (xs : List Int) (j : Nat) : (afterJ xs.length j).Ok xs := by
  unfold afterJ
  split
  · exact ⟨by simp; omega, by simp⟩
  · exact ⟨by simp; omega, by simp⟩
set_option maxRecDepth 100000 in
set_option maxHeartbeats 3200000 in
theorem walk (xs : List Int) (os : List CO) (V1 : Value) (A0 A : Option Addr) (c0 c : Nat) (w : World) (hr0 : ReadsOf I 0 w A0 xs.length xs) (hx : Byt xs) (hxl : xs.length ≤ 140737488351232) (hr : KOp.C w A os.length os) (hv : ∀ o, o ∈ os → I64 o.2.2.1 ∧ 0 ≤ o.2.2.2.1)
    (ht : ErrTab w) (hz : 0 < w.heap.size) :
    Calls Tryd.prog 4 #[.agg #[.slice A0 xs.length c0, V1, .slice A os.length c]] w fun e w' => e = .returned (.bool true) ∧ Below w.heap.size w w' := by
  obtain ⟨W0, hW0⟩ : ∃ W0, W0 = w.alloc (.cells #[.slice A0 xs.length c0, V1, .slice A os.length c] 26) := ⟨_, rfl⟩
  have hB0 : Below w.heap.size w W0 := by rw [hW0]; exact (Below.refl _ _).alloc (Nat.le_refl _) _
  have hblk := blk_new w (.cells #[.slice A0 xs.length c0, V1, .slice A os.length c] 26)
  rw [← hW0] at hblk
  have b0 := blk_cell hblk 0
  have b2 := blk_cell hblk 2
  simp at b0 b2
  have hos := Kd.C_max hr
  have HB0 := Lib.hid hB0
  have HW0 := Lib.hid hW0
  have HBK := Lib.hid hblk
  have HSZ : Hid (W0.heap.size = w.heap.size + 1) := by rw [hW0]; show _ = _; simp
  have HZ : Hid (0 < w.heap.size) := hz
  have HT := Lib.hid (ht.below hB0 hz)
  have HR := Lib.hid (Kd.C_below hr hB0)
  have HV := Lib.hid hv
  have HX := Lib.hid hx
  have CR := Lib.hid (read_calls xs A0 c0 W0 W0.heap.size (Nat.le_refl _) (hr0.below hB0) (by omega))
  have CU := fun e w => Lib.hid (num_calls e w)
  clear hW0 hB0 hblk hr hv ht hz hx hr0
  go_enter Tryd.func4, Tryd.ntmps4
  go_wp2_with fail
  rw [← HW0.out]
  go_wp2_with fail
  refine CR.out.mono ?_; rintro e w1 ⟨g, v, rfl, hd1, hb1, _, _⟩
  have HD1 := Lib.hid hd1
  have HB1 := Lib.hid hb1
  clear hd1 hb1 b0
  go_wp2_with fail
  go_loopw [5] (fun i wr => ∃ j : Nat, i = .int .i64 j ∧ j ≤ xs.length / 8 + 1 ∧ Rdr wr W0.heap.size g v xs (afterJ xs.length j).at_ (afterJ xs.length j).met ∧ Below W0.heap.size W0 wr) (fun i _ => xs.length / 8 + 1 - (intOf i).toNat)
  case atStart => exact ⟨0, rfl, by omega, by simpa [afterJ] using HD1.out, HB1.out⟩
  case round =>
    obtain ⟨j, rfl, hj, hd, hb⟩ := hrel
    have HD := Lib.hid hd
    have HB := Lib.hid hb
    clear hd hb
    by_cases hlt : j < xs.length / 8 + 1
    · have C64 := Lib.hid (rd64_calls wr W0.heap.size g v xs _ HD.out (afterJ_ok xs j) HB.out.size HX.out)
      rw [afterJ_step xs j (by omega)] at C64
      have i1 : (j : Int) < (xs.length : Int) / 8 + 1 := by omega
      go_wp2_with fail
      refine C64.out.mono ?_; rintro e w2 ⟨rfl, h2⟩
      have H2 := Lib.hid h2
      clear h2
      go_wp2_with fail
      go_roundw
      case rel => exact ⟨j + 1, by go_num, by omega, H2.out.rd, HB.out.trans H2.out.bl⟩
      case measure => simp [intOf]; omega
    · obtain rfl : j = xs.length / 8 + 1 := by omega
      obtain ⟨s, hs⟩ : ∃ s, s = afterJ xs.length (xs.length / 8 + 1) := ⟨_, rfl⟩
      have hse : s = ⟨8 * (xs.length / 8), 1⟩ := by rw [hs]; unfold afterJ; rw [if_neg (by omega)]
      have hok : s.Ok xs := by rw [hs]; exact afterJ_ok xs _
      rw [← hs] at HD
      have HTR := Lib.hid (HT.out.below HB.out (by have := HSZ.out; have := HZ.out; omega))
      have CF := Lib.hid (fault_calls wr W0.heap.size g v xs s HD.out hok HTR.out)
      have CA := Lib.hid (at_calls wr W0.heap.size g v xs s HD.out)
      have HOK := Lib.hid hok
      have HSE := Lib.hid hse
      have e1 : errN s.met = 10 := by rw [hse]; rfl
      have e2 : (s.at_ : Int) = (xs.length : Int) / 8 * 8 := by rw [hse]; simp; omega
      rw [e1] at CF
      rw [e2] at CA
      have i1 : ¬ ((xs.length / 8 + 1 : Nat) : Int) < (xs.length : Int) / 8 + 1 := by omega
      clear hs hse hok hj hlt e1 e2
      go_wp2_with fail
      refine CF.out.mono ?_; rintro e w2 ⟨rfl, rfl⟩
      go_wp2_with fail
      refine (CU _ _).out.mono ?_; rintro e w3 ⟨rfl, rfl⟩
      go_wp2_with fail
      refine CA.out.mono ?_; rintro e w4 ⟨rfl, rfl⟩
      go_wp2_with fail
      have HDL := Lib.hid (HD.out)
      have HBL := Lib.hid (HB.out)
      obtain ⟨n8, hn8⟩ : ∃ n8, n8 = xs.length / 8 * 8 := ⟨_, rfl⟩
      have hsm : s.met ≠ 0 := by rw [HSE.out]; simp
      have HSM := Lib.hid hsm
      have e9 : ((xs.length : Int) / 8 * 8) = (n8 : Int) := by omega
      have hel : (xs.length : Int) - (s.at_ : Int) = (xs.length : Int) % 8 := by rw [HSE.out]; simp; omega
      have HEL := Lib.hid hel
      have HAT : Hid ((s.at_ : Int) = (xs.length : Int) / 8 * 8) := by rw [HSE.out]; show _ = _; simp; omega
      clear hn8 hsm e9 hel CF CA
      go_loopw [6] (fun i wr => ∃ k : Nat, i = .int .i64 k ∧ k ≤ os.length ∧ k ≤ 400 ∧ Rdr wr W0.heap.size g v xs s.at_ s.met ∧ Below W0.heap.size W0 wr) (fun i _ => 400 - (intOf i).toNat)
      case atStart => exact ⟨0, rfl, by omega, by omega, HDL.out, HBL.out⟩
      case round =>
        obtain ⟨k, rfl, hk, hk4, hd, hb⟩ := hrel
        have HD2 := Lib.hid hd
        have HB2 := Lib.hid hb
        have hx2 := pw_cell_below hb (blk_cell HBK.out 2)
        simp at hx2
        clear hd hb
        by_cases hgo : k < os.length ∧ k < 400
        · obtain ⟨g1, g2⟩ := hgo
          obtain ⟨ad, Ab, cb, rfl, hop⟩ := op_at (Kd.C_below HR.out HB2.out) k g1 rfl
          obtain ⟨o, ho⟩ : ∃ o, o = os[k] := ⟨_, rfl⟩
          have hvo := HV.out os[k] (List.getElem_mem g1)
          rw [← ho] at hop hvo
          have q0 := hop.c0
          have q1 := hop.c1
          have q2 := hop.c2
          have q3 := hop.c3
          have q4 := hop.c4
          have CS := Lib.hid (silent_calls wr W0.heap.size g v xs s o (.slice Ab o.2.2.2.2.length cb) HD2.out HOK.out HB2.out.size HX.out (by omega) HSM.out rfl hvo.1 hvo.2)
          obtain ⟨k0, k1, k2, k3, bb⟩ := o
          have i1 : (k : Int) < (os.length : Int) := by omega
          have i2 : (k : Int) < 400 := by omega
          have i3 : (0 : Int) ≤ (k : Int) := by omega
          clear hop ho hvo
          go_wp2_with fail
          refine CS.out.mono ?_; rintro e w5 ⟨rfl, h5⟩
          have HT5 := HT.out.below (HB2.out.trans h5.bl) (by have := HSZ.out; have := HZ.out; omega)
          have CF := Lib.hid (fault_calls w5 W0.heap.size g v xs s h5.rd HOK.out HT5)
          have CE := Lib.hid (end_calls w5 W0.heap.size g v xs s h5.rd HOK.out HT5 (Nat.lt_of_lt_of_le HZ.out (Nat.le_trans HB0.out.size (Nat.le_trans HB2.out.size h5.kb.1))))
          have e1 : errN s.met = 10 := by rw [HSE.out]; rfl
          have e2 : rEnd xs s = 10 := by rw [HSE.out]; rfl
          rw [e1] at CF
          rw [e2] at CE
          have H5 := Lib.hid h5
          clear h5 HT5 e1 e2 q0 q1 q2 q3 q4
          go_wp2_with fail
          refine CF.out.mono ?_; rintro e w6 ⟨rfl, rfl⟩
          go_wp2_with fail
          refine (CU _ _).out.mono ?_; rintro e w7 ⟨rfl, rfl⟩
          go_wp2_with fail
          refine CE.out.mono ?_; rintro e w8 ⟨rfl, hb8⟩
          have hd8 := rdr_below H5.out.rd hb8
          have CA := Lib.hid (at_calls w8 W0.heap.size g v xs s hd8)
          have CL := Lib.hid (left_calls w8 W0.heap.size g v xs s.at_ s.met hd8 (by omega) (by have := HOK.out.at_; omega))
          rw [HEL.out] at CL
          rw [HAT.out] at CA
          have H8 := Lib.hid hd8
          have HB8 := Lib.hid hb8
          clear hd8 hb8
          go_wp2_with fail
          refine (CU _ _).out.mono ?_; rintro e w9 ⟨rfl, rfl⟩
          go_wp2_with fail
          refine CA.out.mono ?_; rintro e w10 ⟨rfl, rfl⟩
          go_wp2_with fail
          refine CL.out.mono ?_; rintro e w11 ⟨rfl, hb11⟩
          have H11 := Lib.hid (rdr_below H8.out hb11)
          have HB11 : Hid (Below W0.heap.size W0 w11) := (HB2.out.trans H5.out.bl).trans ((HB8.out.trans (hb11.mono HB8.out.size)).mono (Nat.le_trans HB2.out.size H5.out.kb.1))
          clear hb11
          go_wp2_with fail
          go_roundw
          case rel => exact ⟨k + 1, by go_num, by omega, by omega, H11.out, HB11.out⟩
          case measure => simp [intOf]; omega
        · have hcase : ¬ (k : Int) < (os.length : Int) ∨ ((k : Int) < (os.length : Int) ∧ ¬ (k : Int) < 400) := by omega
          clear hgo
          rcases hcase with h0 | ⟨h0, h1⟩
          all_goals
            go_wp2_with fail
            go_ret
            exact ⟨rfl, HB0.out.trans (HB2.out.mono (by have := HSZ.out; omega))⟩
end Go.Proofs.YtoeiaimoppmjdaaDoor.CodeStops
