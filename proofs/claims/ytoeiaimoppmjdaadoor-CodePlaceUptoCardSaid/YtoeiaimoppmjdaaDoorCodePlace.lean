/- CodePlace: what is handed in is not kept. -/
import Derived.Test.YtoeiaimoppmjdaaDoorPlace
import Derived.Test.YtoeiaimoppmjdaaDoorEq
namespace Go.Proofs.YtoeiaimoppmjdaaDoor.CodePlace
open Go Go.ChangeShapes Go.WideShapes Go.RowKit Go.Deep Go.Proofs.YtoeiaimoppmjdaaDoorW.PrintWords Go.Proofs.YtoeiaimoppmjdaaDoor.Bytes Go.Proofs.YtoeiaimoppmjdaaDoor.Wr Go.Proofs.YtoeiaimoppmjdaaDoor.Args Go.Proofs.YtoeiaimoppmjdaaDoor.OpnS
set_option linter.unusedVariables false
set_option linter.unusedSimpArgs false
set_option maxRecDepth 100000 in
set_option maxHeartbeats 6400000 in
theorem walk (xs : List Int) (os : List CO) (V1 : Value) (A0 A : Option Addr) (c0 c : Nat) (w : World) (hr0 : ReadsOf I 0 w A0 xs.length xs) (hx0 : Byt xs) (hxl : xs.length ≤ 1048576) (hr : Args.KOp.C w A os.length os)
    (hv : ∀ o, o ∈ os → I64 o.2.1 ∧ I64 o.2.2.1 ∧ 0 ≤ o.2.2.2.1 ∧ o.2.2.2.1 ≤ 18446744073709551615)
    (ht : ErrTab w) (hz : 0 < w.heap.size) :
    Calls Tryd.prog 5 #[.agg #[.slice A0 xs.length c0, V1, .slice A os.length c]] w fun e w' => e = .returned (.bool true) ∧ Below w.heap.size w w' := by
  obtain ⟨W0, hW0⟩ : ∃ W0, W0 = w.alloc (.cells #[.slice A0 xs.length c0, V1, .slice A os.length c] 26) := ⟨_, rfl⟩
  have hB0 : Below w.heap.size w W0 := by rw [hW0]; exact (Below.refl _ _).alloc (Nat.le_refl _) _
  have hblk := blk_new w (.cells #[.slice A0 xs.length c0, V1, .slice A os.length c] 26)
  rw [← hW0] at hblk
  have b0 := blk_cell hblk 0
  have b2 := blk_cell hblk 2
  simp at b0 b2
  have hos := Kd.C_max hr
  have HSZ : Hid (W0.heap.size = w.heap.size + 1) := by rw [hW0]; show _ = _; simp
  have HB0 := Lib.hid hB0
  have HW0 := Lib.hid hW0
  have HBK := Lib.hid hblk
  have HZ : Hid (0 < w.heap.size) := hz
  have HZ0 : Hid (0 < W0.heap.size) := Nat.lt_of_lt_of_le hz hB0.size
  have HT := Lib.hid (ht.below hB0 hz)
  have HRD : Hid (∀ (zs : List Int) (Ai Ab : Option Addr) (ci cb : Nat) (W : World), Below W0.heap.size W0 W → ReadsOf I 0 W Ai zs.length zs → ReadsOf I 0 W Ab zs.length zs → Byt zs → zs.length ≤ 1048576 → Calls Tryd.prog 30 #[.slice Ai zs.length ci, .slice Ab zs.length cb, .slice A os.length c] W fun e w' => e = .returned (.bool true) ∧ Below W.heap.size W w') :=
    fun zs Ai Ab ci cb W hb hi hbb hzx hzl => readp_calls zs os Ai Ab A ci cb c W hi hbb hzx hzl (Kd.C_below (Kd.C_below hr hB0) hb) hv (HT.out.below hb HZ0.out) (Nat.lt_of_lt_of_le HZ0.out hb.size)
  have HRI := Lib.hid (hr0.below hB0)
  have HLT : Hid (0 < xs.length → ∀ ad, A0 = some ad → ad.block < W0.heap.size) := reads_lt HRI.out
  have HX := Lib.hid hx0
  have CH := Lib.hid (head_calls A0 xs.length c0 W0 hxl)
  have CLd := Lib.hid (lend_calls xs A0 c0 W0 (Kd.C_of_reads HRI.out) hxl)
  have HML : Hid ((marked xs).length = xs.length + 70) := marked_length xs
  clear hW0 hB0 hblk hr hv ht hz hx0 hr0
  go_enter Tryd.func5, Tryd.ntmps5
  go_wp2_with fail
  rw [← HW0.out]
  go_wp2_with fail
  refine CH.out.mono ?_; rintro e w1 ⟨rfl, hw1⟩
  rw [hw1]
  clear hw1
  go_wp2_with fail
  refine CLd.out.mono ?_; rintro e wa ⟨gi, cap, rfl, hoi, hba⟩
  have HOI := Lib.hid hoi
  have HBA := Lib.hid hba
  have COt := Lib.hid (other_calls xs A0 c0 wa (HRI.out.below hba) HX.out hxl)
  clear hoi hba b0
  go_wp2_with fail
  refine COt.out.mono ?_; rintro e wb ⟨ys, D, cd, rfl, hyl, hyb, hot, hbb⟩
  have HYL := Lib.hid hyl
  have HYB := Lib.hid hyb
  have HOT := Lib.hid hot
  have HBB := Lib.hid hbb
  have BB : Hid (Below W0.heap.size W0 wb) := HBA.out.trans (hbb.mono HBA.out.size)
  have CN := Lib.hid (new_calls wb W0.heap.size BB.out.size)
  rw [hyl]
  clear hyl hyb hot hbb
  go_wp2_with fail
  refine CN.out.mono ?_; rintro e wc ⟨rfl, hwt, hbc⟩
  have BC : Hid (Below W0.heap.size W0 wc) := BB.out.trans (hbc.mono BB.out.size)
  have hpl : Pl wc W0.heap.size gi cap (marked xs) D cd ys wb.heap.size (.slice none 0 0) [] := by
    have l1 := own_lt HOI.out gi rfl
    exact ⟨pw_own_below (pw_own_below HOI.out HBB.out) hbc, own_less (pw_own_below HOT.out hbc) HBA.out.size, hwt, fun e => by have := own_base HOT.out _ e; omega, by simp [Value.ownBlock], .inl rfl⟩
  have PC := Lib.hid hpl
  have C1 := Lib.hid (HRD.out xs (some ⟨gi, 0, none⟩) A0 cap c0 wc BC.out (own_reads hpl.io (marked_take xs)) (HRI.out.below BC.out) HX.out hxl)
  have b2 := pw_cell_below BC.out (blk_cell HBK.out 2)
  simp at b2
  clear hwt hbc hpl
  go_wp2_with fail
  refine C1.out.mono ?_; rintro e wd ⟨rfl, hbd⟩
  have BD : Hid (Below W0.heap.size W0 wd) := BC.out.trans (hbd.mono BC.out.size)
  have PD := Lib.hid (PC.out.below hbd)
  have C2 := Lib.hid (wbytes_calls xs (some ⟨gi, 0, none⟩) cap wd W0.heap.size wb.heap.size (.slice none 0 0) [] PD.out.wt BD.out.size (fun w' hk => reads_keep (own_reads PD.out.io (marked_take xs)) hk (fun _ ad e => by injection e with e; rw [← e]; exact PD.out.gne) (fun _ ad e => by simp [Value.ownBlock])) (by simp; omega))
  clear hbd b2
  go_wp2_with fail
  refine C2.out.mono ?_; rintro e we ⟨rfl, v0, hp⟩
  rw [List.nil_append] at hp
  have PE := Lib.hid (PD.out.put hp)
  have BE : Hid (Below W0.heap.size W0 we) := BD.out.trans hp.bl
  have C3 := Lib.hid (read_calls xs (some ⟨gi, 0, none⟩) cap we we.heap.size (Nat.le_refl _) (own_reads PE.out.io (marked_take xs)) (by omega))
  clear hp
  go_wp2_with fail
  refine C3.out.mono ?_; rintro e wf ⟨g1, v1, rfl, hd, hbf, _, hv1⟩
  have PF := Lib.hid (PE.out.below hbf)
  have BF : Hid (Below W0.heap.size W0 wf) := BE.out.trans (hbf.mono BE.out.size)
  have hfi : Fi wf W0.heap.size gi wb.heap.size v0 g1 v1 xs := ⟨⟨hd.blk, Nat.le_trans BE.out.size hd.le, own_less hd.own BE.out.size⟩, fun e => by have := hv1 _ e; have := PE.out.gi_lt.2; omega, by
    cases hv : v1.ownBlock with
    | none => exact .inl rfl
    | some b => exact .inr (fun e => by have := hv1 _ hv; have := own_lt PE.out.wt.own _ e.symm; omega)⟩
  have FF := Lib.hid hfi
  have C4 := Lib.hid (into2_calls xs.length ys (marked xs) gi cap D cd W0.heap.size wf HYL.out (by rw [HML.out]; omega) hxl PF.out.io (fun w' hg => by
    have h := own_reads (own_other PF.out.ot hg (.inr PF.out.n1)) (xs := ys) (by simp)
    rw [HYL.out] at h
    exact h))
  clear hd hbf hv1 hfi
  go_wp2_with fail
  refine C4.out.mono ?_; rintro e wg ⟨rfl, hog, hgg⟩
  have hzl : (ys ++ (marked xs).drop xs.length).length = (marked xs).length := by rw [List.length_append, List.length_drop, HYL.out, HML.out]; omega
  have PG := Lib.hid (PF.out.into hzl hog hgg)
  have FG := Lib.hid (FF.out.into PF.out hgg)
  have BG : Hid (Below W0.heap.size W0 wg) := BF.out.grown hgg BF.out.size (fun k hk => by injection hk with hk; rw [← hk]; exact PF.out.gi_lt.1)
  have HZL := Lib.hid hzl
  have hri : ReadsOf I 0 wg (some ⟨gi, 0, none⟩) ys.length ys := own_reads PG.out.io (by simp)
  have HRG := Lib.hid hri
  have C5 := Lib.hid (HRD.out ys (some ⟨gi, 0, none⟩) D cap cd wg BG.out hri (own_reads PG.out.ot (by simp)) HYB.out (by rw [HYL.out]; exact hxl))
  rw [HYL.out] at C5
  have b2 := pw_cell_below BG.out (blk_cell HBK.out 2)
  simp at b2
  clear hog hgg hzl hri
  go_wp2_with fail
  refine C5.out.mono ?_; rintro e wh ⟨rfl, hbh⟩
  have PH := Lib.hid (PG.out.below hbh)
  have FH := Lib.hid (FG.out.below hbh)
  have BH : Hid (Below W0.heap.size W0 wh) := BG.out.trans (hbh.mono BG.out.size)
  have C6 := Lib.hid (raw_calls wh W0.heap.size wb.heap.size v0 (vr xs.length ++ xs) ys (some ⟨gi, 0, none⟩) cap PH.out.wt BH.out.size (own_reads PH.out.io (by simp)) (by have := vr_length xs.length 9 (by omega); rw [List.length_append, HYL.out]; omega))
  rw [HYL.out] at C6
  clear hbh b2
  go_wp2_with fail
  refine C6.out.mono ?_; rintro e wi ⟨rfl, v2, hp⟩
  have PI := Lib.hid (PH.out.put hp)
  have FI := Lib.hid (FH.out.put PH.out hp)
  have BI : Hid (Below W0.heap.size W0 wi) := BH.out.trans hp.bl
  have C7 := Lib.hid (into2_calls xs.length xs (ys ++ (marked xs).drop xs.length) gi cap A0 c0 W0.heap.size wi rfl (by rw [HZL.out, HML.out]; omega) hxl PI.out.io (fun w' hg => reads_grown (HRI.out.below BI.out) hg (fun h0 ad e => by have := HLT.out h0 ad e; have := PI.out.gi_lt.1; omega)))
  clear hp
  go_wp2_with fail
  refine C7.out.mono ?_; rintro e wj ⟨rfl, hoj, hgj⟩
  have hzl : (xs ++ (ys ++ (marked xs).drop xs.length).drop xs.length).length = (ys ++ (marked xs).drop xs.length).length := by rw [List.length_append, List.length_drop, HZL.out, HML.out]; omega
  have PJ := Lib.hid (PI.out.into hzl hoj hgj)
  have FJ := Lib.hid (FI.out.into PI.out hgj)
  have BJ : Hid (Below W0.heap.size W0 wj) := BI.out.grown hgj BI.out.size (fun k hk => by injection hk with hk; rw [← hk]; exact PI.out.gi_lt.1)
  have C8 := Lib.hid (HRD.out xs (some ⟨gi, 0, none⟩) A0 cap c0 wj BJ.out (own_reads PJ.out.io (by simp)) (HRI.out.below BJ.out) HX.out hxl)
  have b2 := pw_cell_below BJ.out (blk_cell HBK.out 2)
  simp at b2
  clear hoj hgj hzl
  go_wp2_with fail
  refine C8.out.mono ?_; rintro e wk ⟨rfl, hbk⟩
  have PK := Lib.hid (PJ.out.below hbk)
  have FK := Lib.hid (FJ.out.below hbk)
  have BK : Hid (Below W0.heap.size W0 wk) := BJ.out.trans (hbk.mono BJ.out.size)
  have er : rRaw xs ⟨0, 0⟩ (xs.length : Int) = (xs, ⟨xs.length, 0⟩) := by unfold rRaw; rw [if_neg (by omega)]; unfold rNext; simp
  have C9 := Lib.hid (rawR_calls wk W0.heap.size g1 v1 xs ⟨0, 0⟩ xs.length FK.out.rd ⟨by simp, by simp⟩ BK.out.size (by omega))
  rw [er] at C9
  clear hbk b2 er
  go_wp2_with fail
  refine C9.out.mono ?_; rintro e wl ⟨u, rfl, hu, hd⟩
  have PL := Lib.hid (PK.out.rd FK.out hd)
  have BL : Hid (Below W0.heap.size W0 wl) := BK.out.trans hd.bl
  obtain ⟨Au, cu, rfl, hru⟩ := own_reads_of (d := (0 : Int)) hu
  have C10 := Lib.hid (eq_calls xs xs Au A0 cu c0 wl hru (HRI.out.below BL.out) (by omega))
  clear hu hd hru
  go_wp2_with fail
  refine C10.out.mono ?_; rintro e wm ⟨bq, rfl, hbq, hbm⟩
  obtain rfl : bq = true := by simpa using hbq
  have PM := Lib.hid (PL.out.below hbm)
  have BM : Hid (Below W0.heap.size W0 wm) := BL.out.trans (hbm.mono BL.out.size)
  have HWL : Hid ((vr xs.length ++ xs ++ ys).length ≤ 2097200) := by
    show _ ≤ _
    have := vr_length xs.length 9 (by omega)
    rw [List.length_append, List.length_append, HYL.out]; omega
  have C11 := Lib.hid (out_calls wm W0.heap.size wm.heap.size wb.heap.size v2 (vr xs.length ++ xs ++ ys) PM.out.wt (Nat.le_refl _) (Nat.le_trans HWL.out (by omega)))
  clear hbq hbm
  go_wp2_with fail
  refine C11.out.mono ?_; rintro e wn ⟨uo, rfl, huo, hbn⟩
  have PN := Lib.hid (PM.out.below hbn)
  have HUO := Lib.hid huo
  have BN : Hid (Below W0.heap.size W0 wn) := BM.out.trans (hbn.mono BM.out.size)
  have C12 := Lib.hid (rtext_calls xs A0 c0 wn wn.heap.size (Nat.le_refl _) (HRI.out.below BN.out) (by omega))
  clear huo hbn
  go_wp2_with fail
  refine C12.out.mono ?_; rintro e wo ⟨ut, rfl, hut, hbo⟩
  obtain ⟨Ax, nx, cx, rfl⟩ := slice_form hut
  have PO := Lib.hid (PN.out.below hbo)
  have HUT := Lib.hid hut
  have HUO2 := Lib.hid (pw_own_below HUO.out hbo)
  have BO : Hid (Below W0.heap.size W0 wo) := BN.out.trans (hbo.mono BN.out.size)
  have HSN : Hid (wn.heap.size ≤ wo.heap.size) := hbo.size
  have HRO : Hid (ReadsOf I 0 wo D xs.length ys) := by
    have h := own_reads PO.out.ot (xs := ys) (by simp)
    rw [HYL.out] at h
    exact h
  clear hut hbo
  go_wp2_with (at_builtin; refine print_append_row_of I 0 (w0 := wo) wn.heap.size rfl (.tmp 69) (.tmp 70) 22 5 (.int .u8 0) 1 rfl Tryd.underlying22 info5 rfl (by omega) (fun _ => rfl) (.slice Ax nx cx) (vr xs.length ++ xs) ys D xs.length cd rfl rfl ?h1 HRO.out ?h2 HSN.out ?h3 ?_; (case h1 => exact HUT.out); (case h2 => exact Below.refl _ _); (case h3 => have := HWL.out; simp only [List.length_append] at this ⊢; omega); intro v3 wp ho1 hb1 hg1 hat1; have HO1 := Lib.hid ho1; have HB1 := Lib.hid hb1; have HG1 := Lib.hid hg1; clear ho1 hb1 hg1 hat1)
  have hne : uo.ownBlock = none ∨ uo.ownBlock ≠ (Value.slice Ax nx cx).ownBlock := by
    cases hb : uo.ownBlock with
    | none => exact .inl rfl
    | some b => exact .inr (fun e => by have h1 := own_base HUT.out b e.symm; have h2 := own_lt HUO.out b hb; omega)
  have hup := own_other HUO2.out HG1.out hne
  obtain ⟨Ao, co, rfl, hro⟩ := own_reads_of (d := (0 : Int)) hup
  obtain ⟨A3, c3, rfl, hr3⟩ := own_reads_of (d := (0 : Int)) HO1.out
  have C13 := Lib.hid (eq_calls (vr xs.length ++ xs ++ ys) (vr xs.length ++ xs ++ ys) Ao A3 co c3 wp hro hr3 (Nat.le_trans HWL.out (by omega)))
  have BP : Hid (Below W0.heap.size W0 wp) := BO.out.trans (HB1.out.mono BN.out.size)
  clear hne hup hro hr3
  refine C13.out.mono ?_; rintro e wq ⟨bq, rfl, hbq, hbb⟩
  obtain rfl : bq = true := by simpa using hbq
  have BQ := Lib.hid (BP.out.trans (hbb.mono BP.out.size))
  clear hbq hbb
  go_wp2_with fail
  go_ret
  exact ⟨rfl, HB0.out.trans (BQ.out.mono (by have := HSZ.out; omega))⟩
set_option maxRecDepth 20000 in
theorem contract {H : Type} {enc : TypeId × Value → H} (W : World) (base : Nat) (v0 : Value) (d0 : DataW H) (p0 : List MemPlace) (hok : Value.okWide Tryd.prog W .any base 26 v0)
    (h0 : DataW.Trod enc Tryd.prog W 0 (fun _ => true) true 26 v0 d0 p0) (hlt : ∀ x ∈ p0, x.block < W.heap.size) (hsz : (DataW.weightsEach Tryd.prog [26] [d0]).all (· ≤ reachBytes) = true) (hk : Rows.uptoSmall H [d0] = true)
    (hL : laidMetH Tryd.prog [("till/code.errnos", Rows.laid_till_code_errnos)] W) :
    Calls Tryd.prog 5 #[v0] W fun e W' => e = .returned (.bool true) ∧ Below W.heap.size W W' := by
  obtain ⟨⟨⟨xa, xb⟩, os⟩, cs, rfl, ⟨c1, c2, hcs, ⟨c3, c4, rfl, hK1, hK2⟩, hK3⟩, ⟨⟨hva, hvb⟩, hVO, _⟩, hB⟩ := open_arg Tryd.underlying26 Args.opens_Script hok h0 hsz
  obtain ⟨A1, n1, rfl, hcap1, hC1⟩ := hK1
  obtain ⟨A2, n2, rfl, _, hC2⟩ := hK2
  obtain ⟨A, c, rfl, hl, hC⟩ := hK3
  obtain rfl : cs = #[.slice A1 xa.length n1, .slice A2 xb.length n2, .slice A os.length c] := by cases cs; simp at hcs; rw [hcs]
  obtain ⟨ht, hz⟩ := Wr.errtab hL
  have hb : Rows.uptoBulk d0 ≤ 1048576 := by
    have := of_decide_eq_true hk
    simpa [Rows.uptoBulkAll] using this
  have h2 := sumB_length (B := fun _ : Int => 1) (fun _ => Nat.le_refl _) xa
  simp only at hB
  exact walk xa os _ A1 A n1 c W (Args.by_reads hC1) (Args.wb_byt hva) (by omega) hC (fun o ho => ⟨Args.in64 (hVO o ho).2.1, Args.in64 (hVO o ho).2.2.1, Args.inu64 (hVO o ho).2.2.2.1⟩) ht hz
end Go.Proofs.YtoeiaimoppmjdaaDoor.CodePlace
