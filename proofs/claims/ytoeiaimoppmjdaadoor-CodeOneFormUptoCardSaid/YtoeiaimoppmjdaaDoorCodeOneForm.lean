/- CodeOneForm: what is read without a fault, written anew by the same calls, is just the bytes that were read. -/
import Derived.Test.YtoeiaimoppmjdaaDoorRW
import Derived.Test.YtoeiaimoppmjdaaDoorErrTab
import Derived.Below
namespace Go.Proofs.YtoeiaimoppmjdaaDoor.CodeOneForm
open Go Go.ChangeShapes Go.WideShapes Go.RowKit Go.Deep Go.Proofs.YtoeiaimoppmjdaaDoorW.PrintWords Go.Proofs.YtoeiaimoppmjdaaDoor.Bytes Go.Proofs.YtoeiaimoppmjdaaDoor.Wr Go.Proofs.YtoeiaimoppmjdaaDoor.Args Go.Proofs.YtoeiaimoppmjdaaDoor.OpnS
set_option linter.unusedVariables false
set_option linter.unusedSimpArgs false
theorem num_calls (e : Int) (w : World) : Calls Tryd.prog 21 #[.int .i64 e] w fun x w' => x = .returned (.int .i64 e) ∧ w' = w := by
  go_enter Tryd.func21, Tryd.ntmps21
  go_wp2_with fail
  go_ret
  exact ⟨rfl, rfl⟩
set_option maxRecDepth 100000 in
set_option maxHeartbeats 6400000 in
theorem walk (xs : List Int) (os : List CO) (V1 : Value) (A0 A : Option Addr) (c0 c : Nat) (w : World) (hr0 : ReadsOf I 0 w A0 xs.length xs) (hcap0 : xs.length ≤ c0) (hx : Byt xs) (hxl : xs.length ≤ 1048576) (hr : KOp.C w A os.length os) (hv : ∀ o, o ∈ os → I64 o.2.2.1 ∧ 0 ≤ o.2.2.2.1 ∧ o.2.2.2.1 ≤ 18446744073709551615)
    (ht : ErrTab w) (hz : 0 < w.heap.size) :
    Calls Tryd.prog 7 #[.agg #[.slice A0 xs.length c0, V1, .slice A os.length c]] w fun e w' => e = .returned (.bool true) ∧ Below w.heap.size w w' := by
  obtain ⟨W0, hW0⟩ : ∃ W0, W0 = w.alloc (.cells #[.slice A0 xs.length c0, V1, .slice A os.length c] 26) := ⟨_, rfl⟩
  have hB0 : Below w.heap.size w W0 := by rw [hW0]; exact (Below.refl _ _).alloc (Nat.le_refl _) _
  have hblk := blk_new w (.cells #[.slice A0 xs.length c0, V1, .slice A os.length c] 26)
  rw [← hW0] at hblk
  have b0 := blk_cell hblk 0
  have b2 := blk_cell hblk 2
  simp at b0 b2
  have hos := Kd.C_max hr
  have HB0 := Lib.hid hB0
  have HW0 := Lib.hid hW0
  have HBK := Lib.hid hblk
  have HSZ : Hid (W0.heap.size = w.heap.size + 1) := by rw [hW0]; show _ = _; simp
  have HZ : Hid (0 < w.heap.size) := hz
  have HT := Lib.hid (ht.below hB0 hz)
  have HR := Lib.hid (Kd.C_below hr hB0)
  have HR0 := Lib.hid (hr0.below hB0)
  have HV := Lib.hid hv
  have HX := Lib.hid hx
  have CR := Lib.hid (read_calls xs A0 c0 W0 W0.heap.size (Nat.le_refl _) (hr0.below hB0) (by omega))
  have CU := fun e w => Lib.hid (num_calls e w)
  clear hW0 hB0 hblk hr hv ht hz hx hr0
  go_enter Tryd.func7, Tryd.ntmps7
  go_wp2_with fail
  rw [← HW0.out]
  go_wp2_with fail
  refine CR.out.mono ?_; rintro e w1 ⟨g, v, rfl, hd1, hb1, hg1, hv1⟩
  have HD1 := Lib.hid hd1
  have HB1 := Lib.hid hb1
  have CN := Lib.hid (new_calls w1 W0.heap.size hb1.size)
  clear hd1 hb1 b0
  go_wp2_with fail
  refine CN.out.mono ?_; rintro e w2 ⟨rfl, hw2, hb2⟩
  have hrw : RW w2 W0.heap.size g w1.heap.size v (.slice none 0 0) xs ⟨0, 0⟩ [] := ⟨rdr_below HD1.out hb2, hw2, fun b _ => by simp [Value.ownBlock]⟩
  have HRW := Lib.hid hrw
  have HB2 : Hid (Below W0.heap.size W0 w2) := HB1.out.trans (hb2.mono HB1.out.size)
  have CL := Lib.hid (left_calls w2 W0.heap.size g v xs 0 0 hrw.rd (by omega) (by omega))
  clear hw2 hb2 hrw
  go_wp2_with fail
  refine CL.out.mono ?_; rintro e w3 ⟨rfl, hb3⟩
  have HRW3 := Lib.hid (HRW.out.below hb3)
  have HB3 : Hid (Below W0.heap.size W0 w3) := HB2.out.trans (hb3.mono HB2.out.size)
  clear hb3
  go_wp2_with fail
  go_loopw [6] (fun i wr => ∃ (k : Nat) (s : RS) (u : Value), i = .int .i64 k ∧ k ≤ os.length ∧ k ≤ 400 ∧ s.met = 0 ∧ s.Ok xs ∧ RW wr W0.heap.size g w1.heap.size v u xs s (xs.take s.at_) ∧ Below W0.heap.size W0 wr) (fun i _ => 400 - (intOf i).toNat)
  case atStart => exact ⟨0, ⟨0, 0⟩, _, rfl, by omega, by omega, rfl, ⟨by simp, by simp⟩, by simpa using HRW3.out, HB3.out⟩
  case round =>
    obtain ⟨k, s, u, rfl, hk, hk4, hm, hok, hrw, hb⟩ := hrel
    have HRK := Lib.hid hrw
    have HBK2 := Lib.hid hb
    have HM := Lib.hid hm
    have HOK := Lib.hid hok
    have hx2 := pw_cell_below hb (blk_cell HBK.out 2)
    simp at hx2
    by_cases hgo : k < os.length ∧ k < 400
    · obtain ⟨g1, g2⟩ := hgo
      obtain ⟨ad, Ab, cb, rfl, hop⟩ := op_at (Kd.C_below HR.out HBK2.out) k g1 rfl
      obtain ⟨o, ho⟩ : ∃ o, o = os[k] := ⟨_, rfl⟩
      have hvo := HV.out os[k] (List.getElem_mem g1)
      rw [← ho] at hop hvo
      have q0 := hop.c0
      have q1 := hop.c1
      have q2 := hop.c2
      have q3 := hop.c3
      have q4 := hop.c4
      have htl : (xs.take s.at_).length = s.at_ := by rw [List.length_take]; exact Nat.min_eq_left hok.at_
      have CG := Lib.hid (again_calls wr W0.heap.size g w1.heap.size v u xs (xs.take s.at_) s o (.slice Ab o.2.2.2.2.length cb) hrw hok hb.size HX.out (by omega) (by rw [htl]; have := hok.at_; omega) rfl hvo.1 hvo.2.1 hvo.2.2)
      have CA := Lib.hid (at_calls wr W0.heap.size g v xs s hrw.rd)
      have CLn := Lib.hid (len_calls wr W0.heap.size w1.heap.size u _ hrw.wt)
      rw [htl] at CLn
      have hag := againP_again HX.out o hm hok
      have hok1 := againP_ok o hok
      obtain ⟨q, hq⟩ : ∃ q, q = againP xs s o := ⟨_, rfl⟩
      rw [← hq] at CG hag hok1
      obtain ⟨b, s1⟩ := q
      have HAG := Lib.hid hag
      have HOK1 := Lib.hid hok1
      obtain ⟨k0, k1, k2, k3, bb⟩ := o
      have i1 : (k : Int) < (os.length : Int) := by omega
      have i2 : (k : Int) < 400 := by omega
      have i3 : (0 : Int) ≤ (k : Int) := by omega
      clear hop ho hvo htl hrw hb hm hok hag hok1 hq
      go_wp2_with fail
      refine CA.out.mono ?_; rintro e w4 ⟨rfl, rfl⟩
      go_wp2_with fail
      refine CLn.out.mono ?_; rintro e w5 ⟨rfl, rfl⟩
      go_wp2_with fail
      refine CG.out.mono ?_; rintro e w6 ⟨rfl, ⟨u6, h6⟩, hb6⟩
      have HB6 := Lib.hid (HBK2.out.trans hb6)
      have H6 := Lib.hid h6
      have HT6 := HT.out.below HB6.out (by have := HSZ.out; have := HZ.out; omega)
      have CF := Lib.hid (fault_calls w6 W0.heap.size g v xs s1 h6.rd HOK1.out HT6)
      have CA6 := Lib.hid (at_calls w6 W0.heap.size g v xs s1 h6.rd)
      clear h6 hb6 HT6 q0 q1 q2 q3 q4 hx2
      by_cases hm1 : s1.met = 0
      · have e1 : errN s1.met = 0 := by rw [hm1]; rfl
        rw [e1] at CF
        obtain ⟨a1, a2, a3⟩ := HAG.out.good hm1
        have a1 : s.at_ ≤ s1.at_ := a1
        have a2 : s1.at_ ≤ xs.length := a2
        have a3 : b = (xs.drop s.at_).take (s1.at_ - s.at_) := a3
        have hys : xs.take s.at_ ++ b = xs.take s1.at_ := by rw [a3, take_more xs _ _ a1]
        rw [hys] at H6
        have hl1 : (xs.take s1.at_).length = s1.at_ := by rw [List.length_take]; exact Nat.min_eq_left a2
        have CL6 := Lib.hid (left_calls w6 W0.heap.size g v xs s1.at_ s1.met H6.out.rd (by omega) (by omega))
        have i4 : ¬ (s1.at_ : Int) < (s.at_ : Int) := by omega
        have i5 : ¬ (xs.length : Int) < (s1.at_ : Int) := by omega
        have i6 : (s1.at_ : Int) ≤ 1048576 := by omega
        have i7 : (s.at_ : Int) ≤ 1048576 := by omega
        have HM1 := Lib.hid hm1
        have HL1 := Lib.hid hl1
        have i8 : (0 : Int) ≤ (s1.at_ : Int) := by omega
        have i9 : (s1.at_ : Int) ≤ (c0 : Int) := by omega
        have i10 : s1.at_ ≤ c0 := by omega
        clear e1 a1 a3 hys hm1 hl1
        go_wp2_with fail
        refine CF.out.mono ?_; rintro e w7 ⟨rfl, rfl⟩
        go_wp2_with fail
        refine (CU _ _).out.mono ?_; rintro e w8 ⟨rfl, rfl⟩
        go_wp2_with fail
        refine CA6.out.mono ?_; rintro e w9 ⟨rfl, rfl⟩
        go_wp2_with fail
        refine CA6.out.mono ?_; rintro e w10 ⟨rfl, rfl⟩
        go_wp2_with fail
        refine CL6.out.mono ?_; rintro e w11 ⟨rfl, hb11⟩
        have H11 := Lib.hid (H6.out.below hb11)
        have HB11 : Hid (Below W0.heap.size W0 w11) := HB6.out.trans (hb11.mono HB6.out.size)
        have CA11 := Lib.hid (at_calls w11 W0.heap.size g v xs s1 H11.out.rd)
        have CLn11 := Lib.hid (len_calls w11 W0.heap.size w1.heap.size u6 _ H11.out.wt)
        rw [HL1.out] at CLn11
        have CO := Lib.hid (out_calls w11 W0.heap.size w11.heap.size w1.heap.size u6 _ H11.out.wt (Nat.le_refl _) (by rw [HL1.out]; omega))
        rw [HL1.out] at CO
        clear hb11
        go_wp2_with fail
        refine CA11.out.mono ?_; rintro e w12 ⟨rfl, rfl⟩
        go_wp2_with fail
        refine CLn11.out.mono ?_; rintro e w13 ⟨rfl, rfl⟩
        go_wp2_with fail
        refine CA11.out.mono ?_; rintro e w14 ⟨rfl, rfl⟩
        go_wp2_with fail
        refine CO.out.mono ?_; rintro e w15 ⟨v15, rfl, ho15, hb15⟩
        obtain ⟨A15, c15, rfl, hr15⟩ := reads_of_own ho15
        have H15 := Lib.hid (H11.out.below hb15)
        have HB15 : Hid (Below W0.heap.size W0 w15) := HB11.out.trans (hb15.mono HB11.out.size)
        have CA15 := Lib.hid (at_calls w15 W0.heap.size g v xs s1 H15.out.rd)
        have hrc := (HR0.out.below HB15.out).take_ s1.at_ a2
        have hle15 : (xs.take s1.at_).length = s1.at_ := HL1.out
        have CE := Lib.hid (eq_calls (xs.take s1.at_) (xs.take s1.at_) A15 A0 c15 c0 w15 (by rw [hle15]; exact hr15) (by rw [hle15]; exact hrc) (by rw [hle15]; omega))
        rw [hle15] at CE
        have HLE15 := Lib.hid hle15
        clear ho15 hr15 hb15 hrc hle15
        go_wp2_with fail
        refine CA15.out.mono ?_; rintro e w16 ⟨rfl, rfl⟩
        go_wp2_with fail
        refine CE.out.mono ?_; rintro e w17 ⟨bb17, rfl, hbb, hb17⟩
        have hbt : bb17 = true := hbb.2 (by first | trivial | rfl)
        subst hbt
        have H17 := Lib.hid (H15.out.below hb17)
        have HB17 : Hid (Below W0.heap.size W0 w17) := HB15.out.trans (hb17.mono HB15.out.size)
        clear hbb hb17
        go_wp2_with fail
        go_roundw
        case rel => exact ⟨k + 1, s1, u6, by go_num, by omega, by omega, HM1.out, HOK1.out, H17.out, HB17.out⟩
        case measure => simp [intOf]; omega
      · have e1 : ¬ errN s1.met = 0 := by
          have := HOK1.out.met
          have : s1.met = 1 ∨ s1.met = 2 ∨ s1.met = 3 ∨ s1.met = 4 := by omega
          rcases this with h | h | h | h <;> (rw [h]; decide)
        have e2 : s1.at_ = s.at_ := HAG.out.bad hm1
        rw [e2] at CA6
        obtain ⟨er, her⟩ : ∃ er, er = errN s1.met := ⟨_, rfl⟩
        rw [← her] at CF e1
        clear her e2 hm1
        go_wp2_with fail
        refine CF.out.mono ?_; rintro e w7 ⟨rfl, rfl⟩
        go_wp2_with fail
        refine (CU _ _).out.mono ?_; rintro e w8 ⟨rfl, rfl⟩
        go_wp2_with fail
        refine CA6.out.mono ?_; rintro e w9 ⟨rfl, rfl⟩
        go_wp2_with fail
        go_ret
        exact ⟨rfl, HB0.out.trans (HB6.out.mono (by have := HSZ.out; omega))⟩
    · have hcase : ¬ (k : Int) < (os.length : Int) ∨ ((k : Int) < (os.length : Int) ∧ ¬ (k : Int) < 400) := by omega
      have HTR := HT.out.below hb (by have := HSZ.out; have := HZ.out; omega)
      have CE := Lib.hid (end_calls wr W0.heap.size g v xs s hrw.rd hok HTR (Nat.lt_of_lt_of_le HZ.out (Nat.le_trans HB0.out.size hb.size)))
      have CLL := Lib.hid (fun W' (hw : Below wr.heap.size wr W') => left_calls W' W0.heap.size g v xs s.at_ s.met (rdr_below HRK.out.rd hw) (by omega) (by have := HOK.out.at_; omega))
      by_cases hl : s.at_ < xs.length
      · have e1 : rEnd xs s = 13 := by simp [rEnd, hm, hl]
        rw [e1] at CE
        have i4 : ((xs.length : Int) - (s.at_ : Int) == 0) = false := by simp; omega
        clear hgo hrw hb hm hok HTR e1 hl
        rcases hcase with h0 | ⟨h0, h1⟩
        all_goals
          go_wp2_with fail
          refine CE.out.mono ?_; rintro e w4 ⟨rfl, hb4⟩
          have HB4 := Lib.hid hb4
          have CL4 := Lib.hid (CLL.out w4 hb4)
          clear hb4
          go_wp2_with fail
          refine (CU _ _).out.mono ?_; rintro e w5 ⟨rfl, rfl⟩
          go_wp2_with fail
          refine CL4.out.mono ?_; rintro e w6 ⟨rfl, hb6⟩
          have HB6 : Hid (Below W0.heap.size W0 w6) := HBK2.out.trans ((HB4.out.trans (hb6.mono HB4.out.size)).mono HBK2.out.size)
          clear hb6
          go_wp2_with fail
          go_ret
          exact ⟨rfl, HB0.out.trans (HB6.out.mono (by have := HSZ.out; omega))⟩
      · have hat : s.at_ = xs.length := by have := hok.at_; omega
        have e1 : rEnd xs s = 0 := by simp [rEnd, hm, hl, errN]
        rw [e1] at CE
        rw [hat] at CLL
        have e3 : (xs.length : Int) - (xs.length : Int) = 0 := by omega
        rw [e3] at CLL
        clear hgo hrw hb hm hok HTR e1 hl hat e3
        rcases hcase with h0 | ⟨h0, h1⟩
        all_goals
          go_wp2_with fail
          refine CE.out.mono ?_; rintro e w4 ⟨rfl, hb4⟩
          have HB4 := Lib.hid hb4
          have CL4 := Lib.hid (CLL.out w4 hb4)
          clear hb4
          go_wp2_with fail
          refine (CU _ _).out.mono ?_; rintro e w5 ⟨rfl, rfl⟩
          go_wp2_with fail
          refine CL4.out.mono ?_; rintro e w6 ⟨rfl, hb6⟩
          have HB6 : Hid (Below W0.heap.size W0 w6) := HBK2.out.trans ((HB4.out.trans (hb6.mono HB4.out.size)).mono HBK2.out.size)
          clear hb6
          go_wp2_with fail
          go_ret
          exact ⟨rfl, HB0.out.trans (HB6.out.mono (by have := HSZ.out; omega))⟩
set_option maxRecDepth 20000 in
theorem contract {H : Type} {enc : TypeId × Value → H} (W : World) (base : Nat) (v0 : Value) (d0 : DataW H) (p0 : List MemPlace) (hok : Value.okWide Tryd.prog W .any base 26 v0)
    (h0 : DataW.Trod enc Tryd.prog W 0 (fun _ => true) true 26 v0 d0 p0) (hlt : ∀ x ∈ p0, x.block < W.heap.size) (hsz : (DataW.weightsEach Tryd.prog [26] [d0]).all (· ≤ reachBytes) = true) (hk : Rows.uptoSmall H [d0] = true)
    (hL : laidMetH Tryd.prog [("till/code.errnos", Rows.laid_till_code_errnos)] W) :
    Calls Tryd.prog 7 #[v0] W fun e W' => e = .returned (.bool true) ∧ Below W.heap.size W W' := by
  obtain ⟨⟨⟨xa, xb⟩, os⟩, cs, rfl, ⟨c1, c2, hcs, ⟨c3, c4, rfl, hK1, hK2⟩, hK3⟩, ⟨⟨hva, _⟩, hVO, _⟩, hB⟩ := open_arg Tryd.underlying26 opens_Script hok h0 hsz
  obtain ⟨A1, n1, rfl, hcap1, hC1⟩ := hK1
  obtain ⟨A2, n2, rfl, _, _⟩ := hK2
  obtain ⟨A, c, rfl, hl, hC⟩ := hK3
  obtain rfl : cs = #[.slice A1 xa.length n1, .slice A2 xb.length n2, .slice A os.length c] := by cases cs; simp at hcs; rw [hcs]
  obtain ⟨ht, hz⟩ := Wr.errtab hL
  have hb : Rows.uptoBulk d0 ≤ 1048576 := by
    have := of_decide_eq_true hk
    simpa [Rows.uptoBulkAll] using this
  have h2 := sumB_length (B := fun _ : Int => 1) (fun _ => Nat.le_refl _) xa
  simp only at hB
  exact walk xa os _ A1 A n1 c W (by_reads hC1) hcap1 (wb_byt hva) (by omega) hC (fun o ho => ⟨in64 (hVO o ho).2.2.1, inu64 (hVO o ho).2.2.2.1⟩) ht hz
end Go.Proofs.YtoeiaimoppmjdaaDoor.CodeOneForm
