/- CodeReads: two Readers over any bytes, in turns: every answer, place and fault is the document's. -/
import Derived.Test.YtoeiaimoppmjdaaDoorPairs2
import Derived.Test.YtoeiaimoppmjdaaDoorRW
import Derived.Test.YtoeiaimoppmjdaaDoorErrTab
import Derived.Below
import Derived.Lib.QuietBelow
namespace Go.Proofs.YtoeiaimoppmjdaaDoor.CodeReads
open Go Go.ChangeShapes Go.WideShapes Go.RowKit Go.Deep Go.Proofs.YtoeiaimoppmjdaaDoorW.PrintWords Go.Proofs.YtoeiaimoppmjdaaDoor.Bytes Go.Proofs.YtoeiaimoppmjdaaDoor.Wr Go.Proofs.YtoeiaimoppmjdaaDoor.Args Go.Proofs.YtoeiaimoppmjdaaDoor.OpnS
open Go.Sort (grow)
set_option linter.unusedVariables false
set_option linter.unusedSimpArgs false
set_option maxRecDepth 100000 in
set_option maxHeartbeats 6400000 in
theorem walk (xa xb : List Int) (os : List CO) (A0 A1 A : Option Addr) (c0 c1 c : Nat) (w : World) (hr0 : ReadsOf I 0 w A0 xa.length xa) (hr1 : ReadsOf I 0 w A1 xb.length xb) (hx0 : Byt xa) (hx1 : Byt xb) (hxl0 : xa.length ≤ 1048576) (hxl1 : xb.length ≤ 1048576) (hr : Args.KOp.C w A os.length os)
    (hv : ∀ o, o ∈ os → I64 o.2.1 ∧ I64 o.2.2.1 ∧ 0 ≤ o.2.2.2.1 ∧ o.2.2.2.1 ≤ 18446744073709551615)
    (ht : ErrTab w) (hz : 0 < w.heap.size) :
    Calls Tryd.prog 3 #[.agg #[.slice A0 xa.length c0, .slice A1 xb.length c1, .slice A os.length c]] w fun e w' => e = .returned (.bool true) ∧ Below w.heap.size w w' := by
  obtain ⟨W0, hW0⟩ : ∃ W0, W0 = w.alloc (.cells #[.slice A0 xa.length c0, .slice A1 xb.length c1, .slice A os.length c] 26) := ⟨_, rfl⟩
  have hB0 : Below w.heap.size w W0 := by rw [hW0]; exact (Below.refl _ _).alloc (Nat.le_refl _) _
  have hblk := blk_new w (.cells #[.slice A0 xa.length c0, .slice A1 xb.length c1, .slice A os.length c] 26)
  rw [← hW0] at hblk
  obtain ⟨W2, hW2⟩ : ∃ W2, W2 = (W0.alloc (.cells #[.pointer none, .pointer none] 28)).alloc (.cells #[.pointer none, .pointer none] 30) := ⟨_, rfl⟩
  have hB2 : Below W0.heap.size W0 W2 := by rw [hW2]; exact ((Below.refl _ _).alloc (Nat.le_refl _) _).alloc (by simp) _
  have hRB : RBk W2 W0.heap.size nilp nilp := by
    have h1 := blk_new W0 (.cells #[.pointer none, .pointer none] 28)
    rw [hW2]; exact blk_below h1 ((Below.refl _ _).alloc (Nat.le_refl _) _)
  have hEB : EBk W2 (W0.heap.size + 1) nilp nilp := by
    have h1 := blk_new (W0.alloc (.cells #[.pointer none, .pointer none] 28)) (.cells #[.pointer none, .pointer none] 30)
    have e : (W0.alloc (.cells #[.pointer none, .pointer none] 28)).heap.size = W0.heap.size + 1 := by simp
    rw [e] at h1
    rw [hW2]; exact h1
  have hos := Kd.C_max hr
  have HSZ : Hid (W0.heap.size = w.heap.size + 1) := by rw [hW0]; show _ = _; simp
  rw [HSZ.out] at hRB hEB
  have HSZ2 : Hid (W2.heap.size = W0.heap.size + 2) := by rw [hW2]; show _ = _; simp
  have HB0 := Lib.hid hB0
  have HW0 := Lib.hid hW0
  have HW2 := Lib.hid hW2
  have HBK := Lib.hid hblk
  have HB2 := Lib.hid hB2
  have HRB := Lib.hid hRB
  have HEB := Lib.hid hEB
  have HZ : Hid (0 < w.heap.size) := hz
  have HT := Lib.hid (ht.below hB0 hz)
  have HR := Lib.hid (Kd.C_below hr hB0)
  have HRI0 := Lib.hid (hr0.below hB0)
  have HRI1 := Lib.hid (hr1.below hB0)
  have HV := Lib.hid hv
  have HX0 := Lib.hid hx0
  have HX1 := Lib.hid hx1
  have CU := fun e w => Lib.hid (num1_calls e w)
  clear hW0 hB0 hblk hW2 hB2 hRB hEB hr hv ht hz hx0 hx1 hr0 hr1
  go_enter Tryd.func3, Tryd.ntmps3
  go_wp2_with fail
  rw [← HW0.out]
  go_wp2_with fail
  rw [← HW2.out]
  go_wp2_with fail
  go_loopw [5] (fun i wr => Below W0.heap.size W0 wr ∧ W2.heap.size ≤ wr.heap.size ∧ ((i = .int .i64 0 ∧ RBk wr (w.heap.size + 1) nilp nilp ∧ EBk wr (w.heap.size + 1 + 1) nilp nilp) ∨ (i = .int .i64 1 ∧ ∃ g h v Ae ce, P1 wr W0.heap.size (w.heap.size + 1) (w.heap.size + 1 + 1) g h v Ae ce xa ⟨0, 0⟩) ∨ (i = .int .i64 2 ∧ ∃ g h v Ae ce g' h' v' Ae' ce', P2 wr W0.heap.size (w.heap.size + 1) (w.heap.size + 1 + 1) g h v Ae ce xa ⟨0, 0⟩ g' h' v' Ae' ce' xb ⟨0, 0⟩))) (fun i _ => (2 - intOf i).toNat)
  case atStart => exact ⟨HB2.out, Nat.le_refl _, .inl ⟨rfl, HRB.out, HEB.out⟩⟩
  case round =>
    obtain ⟨hb, hsz, ⟨rfl, hrb, heb⟩ | ⟨rfl, g0, h0, v0, Ae0, ce0, hp1⟩ | ⟨rfl, g0, h0, v0, Ae0, ce0, g1, h1, v1, Ae1, ce1, hp2⟩⟩ := hrel
    · have hx0 := pw_cell_below hb (blk_cell HBK.out 0)
      simp at hx0
      have HBR := Lib.hid hb
      have HRBR := Lib.hid hrb
      have HEBR := Lib.hid heb
      have HS2 := Lib.hid hsz
      have CLd := Lib.hid (lend_calls xa A0 c0 wr (Kd.C_of_reads (HRI0.out.below hb)) hxl0)
      obtain ⟨w0, rfl⟩ : ∃ w0, w0 = wr := ⟨_, rfl⟩
      clear hb hsz hrb heb
      go_wp2_with fail
      refine CLd.out.mono ?_; rintro e wa ⟨gi, cap, rfl, hoi, hba⟩
      have hgil := own_lt hoi gi rfl
      have hgib := own_base hoi gi rfl
      have CRd := Lib.hid (read_calls xa (some ⟨gi, 0, none⟩) cap wa wa.heap.size (Nat.le_refl _) (own_reads hoi (marked_take xa)) (by omega))
      have HGI := Lib.hid hgil
      have HGB := Lib.hid hgib
      have HOI := Lib.hid hoi
      have HBA := Lib.hid hba
      clear hoi hba hgil hgib hx0
      go_wp2_with fail
      refine CRd.out.mono ?_; rintro e wb ⟨g, v, rfl, hd, hbb, _, _⟩
      have hRBb := blk_below (blk_below HRBR.out HBA.out) hbb
      have hEBb := blk_below (blk_below HEBR.out HBA.out) hbb
      have d0 := blk_cell hRBb 0
      have f0 := blk_frozen hRBb 0
      simp at d0
      have HD := Lib.hid hd
      have HBB := Lib.hid hbb
      have HEBB := Lib.hid hEBb
      have HRBB := Lib.hid hRBb
      clear hd hbb hRBb hEBb
      obtain ⟨wc, hwc⟩ : ∃ wc, wc = wb.setCell ⟨w.heap.size + 1, 0, none⟩ (pt g) := ⟨_, rfl⟩
      have hBb : Below W0.heap.size W0 wb := (HBR.out.trans (HBA.out.mono HBR.out.size)).trans (HBB.out.mono (Nat.le_trans HBR.out.size HBA.out.size))
      have hBc : Below W0.heap.size W0 wc := by rw [hwc]; exact hBb.setCell (Nat.le_of_eq HSZ.out) _
      have hx0 := pw_cell_below hBc (blk_cell HBK.out 0)
      simp at hx0
      rw [hwc] at hx0
      go_wp2_with fail
      rw [← hwc]
      have CCp := Lib.hid (copy_calls xa A0 c0 wc wc.heap.size (Nat.le_refl _) (HRI0.out.below hBc) (by omega))
      have HWC := Lib.hid hwc
      have HBC := Lib.hid hBc
      clear hwc hBb hBc d0 f0 hx0
      go_wp2_with fail
      refine CCp.out.mono ?_; rintro e wd ⟨uu, rfl, hu, hbd⟩
      obtain ⟨Ae, ce, rfl, hre⟩ := own_reads_of (d := (0 : Int)) hu
      obtain ⟨we, hwe⟩ : ∃ we, we = wd.alloc (.cells #[.slice Ae xa.length ce, .int .i64 0, .int .i64 0] 34) := ⟨_, rfl⟩
      have hbe : Below wd.heap.size wd we := by rw [hwe]; exact (Below.refl _ _).alloc (Nat.le_refl _) _
      have hEBc : EBk wc (w.heap.size + 1 + 1) nilp nilp := by rw [HWC.out]; exact (keep_store wb (w.heap.size + 1) 0 _ none).blk HEBB.out (by omega) (by simp)
      have hEBe := blk_below (blk_below hEBc hbd) hbe
      have d0 := blk_cell hEBe 0
      have f0 := blk_frozen hEBe 0
      simp at d0
      rw [hwe] at d0 f0
      have HU := Lib.hid hu
      have HBD := Lib.hid hbd
      have HWE := Lib.hid hwe
      clear hu hbd hre hwe hbe hEBc hEBe
      obtain ⟨wf, hwf⟩ : ∃ wf, wf = we.setCell ⟨w.heap.size + 1 + 1, 0, none⟩ (pt wd.heap.size) := ⟨_, rfl⟩
      have hm := mid_new (p1 := pt g) (q1 := nilp) (r1 := pt wd.heap.size) (s1 := nilp) HBR.out.size HRBR.out HEBR.out (Nat.le_of_eq HSZ.out) (by have := HSZ.out; omega) HBA.out HGI.out HBB.out HD.out HWC.out rfl HBD.out HU.out HWE.out hwf rfl
      have HM := Lib.hid hm
      have hBf : Below W0.heap.size W0 wf := HBR.out.trans hm.bl
      have hx0 := pw_cell_below hBf (blk_cell HBK.out 0)
      have d1 := blk_cell hm.rb 0
      simp at hx0 d1
      have hoi : wf.ownsRow w0.heap.size 5 1 (.slice (some ⟨gi, 0, none⟩) (marked xa).length cap) (marked xa).length (encs I (marked xa)) := by
        have k1 := pw_own_below HOI.out HBB.out
        have k2 : wc.ownsRow w0.heap.size 5 1 (.slice (some ⟨gi, 0, none⟩) (marked xa).length cap) (marked xa).length (encs I (marked xa)) := by
          rw [HWC.out]; exact (keep_store wb (w.heap.size + 1) 0 _ none).own k1 (own_ne_type k1 HRBB.out (by decide)) (.inr (by simp [Value.ownBlock]))
        have k3 := pw_own_below k2 HBD.out
        have k4 : we.ownsRow w0.heap.size 5 1 (.slice (some ⟨gi, 0, none⟩) (marked xa).length cap) (marked xa).length (encs I (marked xa)) := pw_own_below k3 (by rw [HWE.out]; exact (Below.refl _ _).alloc (Nat.le_refl _) _)
        have l1 := HGB.out
        have l2 := blk_lt HEBR.out
        rw [hwf]; exact (keep_store we (w.heap.size + 1 + 1) 0 _ none).own k4 (by simp [Value.ownBlock]; omega) (.inr (by simp [Value.ownBlock]))
      have CI := Lib.hid (intact_calls xa A0 c0 gi cap w0.heap.size wf (HRI0.out.below hBf) hxl0 hoi)
      have HOF := Lib.hid hoi
      have HBF := Lib.hid hBf
      rw [hwf, HWE.out] at hx0 d1
      clear hm hoi hBf
      go_wp2_with fail
      rw [← HWE.out, ← hwf]
      have HWF := Lib.hid hwf
      clear hwf d0 f0 d1 hx0
      refine CI.out.mono ?_; rintro e wg ⟨rfl, hbg⟩
      have HBG := Lib.hid hbg
      have HOG := Lib.hid (pw_own_below HOF.out hbg)
      clear hbg
      go_wp2_with fail
      go_loopw [7] (fun j wr => ∃ n : Nat, j = .int .i64 n ∧ n ≤ xa.length ∧ Fill wg wr w0.heap.size gi cap (marked xa).length) (fun j _ => xa.length - (intOf j).toNat)
      case atStart => exact ⟨0, rfl, Nat.zero_le _, ⟨marked xa, rfl, HOG.out⟩, Below.refl _ _, KeepBut.refl _ _ _⟩
      case round =>
        obtain ⟨n, rfl, hn, hf⟩ := hrel
        have HF := Lib.hid hf
        obtain ⟨ms, hms, how⟩ := hf.ow
        by_cases hlt : n < xa.length
        · have hmn : n < ms.length := by rw [hms, marked_length]; omega
          have cl := own_cell how n hmn
          have fz : wr.frozen? ⟨gi, n, none⟩ = false := by
            obtain ⟨cs, hk⟩ := own_kind how gi rfl
            exact blk_frozen hk n
          have i1 : (n : Int) < (xa.length : Int) := by omega
          have i2 : (0 : Int) ≤ (n : Int) := by omega
          have NX := Lib.hid (hf.put HGB.out n)
          clear hf how hms hmn
          go_wp2_with fail
          exact ⟨⟨n + 1, by go_num, by omega, NX.out⟩, by simp [intOf]; omega⟩
        · have i1 : ¬ (n : Int) < (xa.length : Int) := by omega
          obtain ⟨wh, rfl⟩ : ∃ wh, wh = wr := ⟨_, rfl⟩
          have l1 := blk_lt HRBR.out
          have l2 := blk_lt HEBR.out
          have l3 := HGB.out
          have HRI : Hid (w.heap.size + 1 ≠ gi) := by show _ ≠ _; omega
          have HEI : Hid (w.heap.size + 1 + 1 ≠ gi) := by show _ ≠ _; omega
          have hpr := pr_fill (HM.out.pr.below HBG.out) hf.kb HM.out.pf
          have hBh : Below W0.heap.size W0 wh := (HBF.out.trans (HBG.out.mono HBF.out.size)).trans (hf.bl.mono HBR.out.size)
          have HBH := Lib.hid hBh
          have hx0 := pw_cell_below hBh (blk_cell HBK.out 0)
          have d1 := blk_cell (hf.kb.blk (blk_below HM.out.rb HBG.out) HRI.out (by simp)) 0
          simp at hx0 d1
          have y0 := cell_regrown hx0
          have y1 := cell_regrown d1
          have CL : ∀ d os, Calls Tryd.prog 17 #[.pointer (some ⟨g, 0, none⟩)] (grow (redrawn wh d) os) fun e w'' => e = .returned (.int .i64 (xa.length : Int)) ∧ ∃ p : Regrown, w'' = grow (redrawn wh p.d) p.os := fun d os =>
            Gen.calls_regrown ((left_calls (grow (redrawn wh d) os) W0.heap.size g v xa 0 0 (rdr_below hpr.rd (below_regrown wh d os)) (by omega) (by omega)).mono fun e w' ⟨he, hb⟩ => ⟨by rw [he, Int.sub_zero], (below_regrown wh d os).trans (hb.mono (below_regrown wh d os).size)⟩)
          clear how hms hf hpr hBh l1 l2 l3 hx0 d1
          go_wp2_with fail
          refine wp_region_quiet_below (by kernel_rfl) (by kernel_rfl) ?_
          repeat (quiet_step (first | with_reducible exact CL _ _))
          refine wpQuiet_nil ?_
          intro wi hw'
          have hbi : Below wh.heap.size wh wi := by obtain ⟨⟨dq, osq⟩, hw''⟩ := hw'; rw [hw'']; exact below_regrown _ dq osq
          have HBI := Lib.hid hbi
          clear hw' hbi y0 y1 CL
          go_wp2_with fail
          exact ⟨⟨HBH.out.trans (HBI.out.mono HBH.out.size), Nat.le_trans HS2.out (Nat.le_trans HM.out.kb.1 (Nat.le_trans HBG.out.size (Nat.le_trans HF.out.bl.size HBI.out.size))), .inr (.inl ⟨by go_num, _, _, _, _, _, mid_one HM.out HRI.out HEI.out HBG.out HF.out.kb HBI.out⟩)⟩, by simp [intOf]⟩
    · have hx0 := pw_cell_below hb (blk_cell HBK.out 1)
      simp at hx0
      have HBR := Lib.hid hb
      have HRBR := Lib.hid hp1.rb
      have HEBR := Lib.hid hp1.eb
      have HP1 := Lib.hid hp1
      have HS2 := Lib.hid hsz
      have CLd := Lib.hid (lend_calls xb A1 c1 wr (Kd.C_of_reads (HRI1.out.below hb)) hxl1)
      obtain ⟨w0, rfl⟩ : ∃ w0, w0 = wr := ⟨_, rfl⟩
      clear hb hsz hp1
      go_wp2_with fail
      refine CLd.out.mono ?_; rintro e wa ⟨gi, cap, rfl, hoi, hba⟩
      have hgil := own_lt hoi gi rfl
      have hgib := own_base hoi gi rfl
      have CRd := Lib.hid (read_calls xb (some ⟨gi, 0, none⟩) cap wa wa.heap.size (Nat.le_refl _) (own_reads hoi (marked_take xb)) (by omega))
      have HGI := Lib.hid hgil
      have HGB := Lib.hid hgib
      have HOI := Lib.hid hoi
      have HBA := Lib.hid hba
      clear hoi hba hgil hgib hx0
      go_wp2_with fail
      refine CRd.out.mono ?_; rintro e wb ⟨g, v, rfl, hd, hbb, _, _⟩
      have hRBb := blk_below (blk_below HRBR.out HBA.out) hbb
      have hEBb := blk_below (blk_below HEBR.out HBA.out) hbb
      have d0 := blk_cell hRBb 1
      have f0 := blk_frozen hRBb 1
      simp at d0
      have HD := Lib.hid hd
      have HBB := Lib.hid hbb
      have HEBB := Lib.hid hEBb
      have HRBB := Lib.hid hRBb
      clear hd hbb hRBb hEBb
      obtain ⟨wc, hwc⟩ : ∃ wc, wc = wb.setCell ⟨w.heap.size + 1, 1, none⟩ (pt g) := ⟨_, rfl⟩
      have hBb : Below W0.heap.size W0 wb := (HBR.out.trans (HBA.out.mono HBR.out.size)).trans (HBB.out.mono (Nat.le_trans HBR.out.size HBA.out.size))
      have hBc : Below W0.heap.size W0 wc := by rw [hwc]; exact hBb.setCell (Nat.le_of_eq HSZ.out) _
      have hx0 := pw_cell_below hBc (blk_cell HBK.out 1)
      simp at hx0
      rw [hwc] at hx0
      go_wp2_with fail
      rw [← hwc]
      have CCp := Lib.hid (copy_calls xb A1 c1 wc wc.heap.size (Nat.le_refl _) (HRI1.out.below hBc) (by omega))
      have HWC := Lib.hid hwc
      have HBC := Lib.hid hBc
      clear hwc hBb hBc d0 f0 hx0
      go_wp2_with fail
      refine CCp.out.mono ?_; rintro e wd ⟨uu, rfl, hu, hbd⟩
      obtain ⟨Ae, ce, rfl, hre⟩ := own_reads_of (d := (0 : Int)) hu
      obtain ⟨we, hwe⟩ : ∃ we, we = wd.alloc (.cells #[.slice Ae xb.length ce, .int .i64 0, .int .i64 0] 34) := ⟨_, rfl⟩
      have hbe : Below wd.heap.size wd we := by rw [hwe]; exact (Below.refl _ _).alloc (Nat.le_refl _) _
      have hEBc : EBk wc (w.heap.size + 1 + 1) (pt h0) nilp := by rw [HWC.out]; exact (keep_store wb (w.heap.size + 1) 1 _ none).blk HEBB.out (by omega) (by simp)
      have hEBe := blk_below (blk_below hEBc hbd) hbe
      have d0 := blk_cell hEBe 1
      have f0 := blk_frozen hEBe 1
      simp at d0
      rw [hwe] at d0 f0
      have HU := Lib.hid hu
      have HBD := Lib.hid hbd
      have HWE := Lib.hid hwe
      clear hu hbd hre hwe hbe hEBc hEBe
      obtain ⟨wf, hwf⟩ : ∃ wf, wf = we.setCell ⟨w.heap.size + 1 + 1, 1, none⟩ (pt wd.heap.size) := ⟨_, rfl⟩
      have hm := mid_new (p1 := pt g0) (q1 := pt g) (r1 := pt h0) (s1 := pt wd.heap.size) HBR.out.size HRBR.out HEBR.out (Nat.le_of_eq HSZ.out) (by have := HSZ.out; omega) HBA.out HGI.out HBB.out HD.out HWC.out rfl HBD.out HU.out HWE.out hwf rfl
      have HM := Lib.hid hm
      have hBf : Below W0.heap.size W0 wf := HBR.out.trans hm.bl
      have hx0 := pw_cell_below hBf (blk_cell HBK.out 1)
      have d1 := blk_cell hm.rb 1
      simp at hx0 d1
      have hoi : wf.ownsRow w0.heap.size 5 1 (.slice (some ⟨gi, 0, none⟩) (marked xb).length cap) (marked xb).length (encs I (marked xb)) := by
        have k1 := pw_own_below HOI.out HBB.out
        have k2 : wc.ownsRow w0.heap.size 5 1 (.slice (some ⟨gi, 0, none⟩) (marked xb).length cap) (marked xb).length (encs I (marked xb)) := by
          rw [HWC.out]; exact (keep_store wb (w.heap.size + 1) 1 _ none).own k1 (own_ne_type k1 HRBB.out (by decide)) (.inr (by simp [Value.ownBlock]))
        have k3 := pw_own_below k2 HBD.out
        have k4 : we.ownsRow w0.heap.size 5 1 (.slice (some ⟨gi, 0, none⟩) (marked xb).length cap) (marked xb).length (encs I (marked xb)) := pw_own_below k3 (by rw [HWE.out]; exact (Below.refl _ _).alloc (Nat.le_refl _) _)
        have l1 := HGB.out
        have l2 := blk_lt HEBR.out
        rw [hwf]; exact (keep_store we (w.heap.size + 1 + 1) 1 _ none).own k4 (by simp [Value.ownBlock]; omega) (.inr (by simp [Value.ownBlock]))
      have CI := Lib.hid (intact_calls xb A1 c1 gi cap w0.heap.size wf (HRI1.out.below hBf) hxl1 hoi)
      have HOF := Lib.hid hoi
      have HBF := Lib.hid hBf
      rw [hwf, HWE.out] at hx0 d1
      clear hm hoi hBf
      go_wp2_with fail
      rw [← HWE.out, ← hwf]
      have HWF := Lib.hid hwf
      clear hwf d0 f0 d1 hx0
      refine CI.out.mono ?_; rintro e wg ⟨rfl, hbg⟩
      have HBG := Lib.hid hbg
      have HOG := Lib.hid (pw_own_below HOF.out hbg)
      clear hbg
      go_wp2_with fail
      go_loopw [7] (fun j wr => ∃ n : Nat, j = .int .i64 n ∧ n ≤ xb.length ∧ Fill wg wr w0.heap.size gi cap (marked xb).length) (fun j _ => xb.length - (intOf j).toNat)
      case atStart => exact ⟨0, rfl, Nat.zero_le _, ⟨marked xb, rfl, HOG.out⟩, Below.refl _ _, KeepBut.refl _ _ _⟩
      case round =>
        obtain ⟨n, rfl, hn, hf⟩ := hrel
        have HF := Lib.hid hf
        obtain ⟨ms, hms, how⟩ := hf.ow
        by_cases hlt : n < xb.length
        · have hmn : n < ms.length := by rw [hms, marked_length]; omega
          have cl := own_cell how n hmn
          have fz : wr.frozen? ⟨gi, n, none⟩ = false := by
            obtain ⟨cs, hk⟩ := own_kind how gi rfl
            exact blk_frozen hk n
          have i1 : (n : Int) < (xb.length : Int) := by omega
          have i2 : (0 : Int) ≤ (n : Int) := by omega
          have NX := Lib.hid (hf.put HGB.out n)
          clear hf how hms hmn
          go_wp2_with fail
          exact ⟨⟨n + 1, by go_num, by omega, NX.out⟩, by simp [intOf]; omega⟩
        · have i1 : ¬ (n : Int) < (xb.length : Int) := by omega
          obtain ⟨wh, rfl⟩ : ∃ wh, wh = wr := ⟨_, rfl⟩
          have l1 := blk_lt HRBR.out
          have l2 := blk_lt HEBR.out
          have l3 := HGB.out
          have HRI : Hid (w.heap.size + 1 ≠ gi) := by show _ ≠ _; omega
          have HEI : Hid (w.heap.size + 1 + 1 ≠ gi) := by show _ ≠ _; omega
          have hpr := pr_fill (HM.out.pr.below HBG.out) hf.kb HM.out.pf
          have hBh : Below W0.heap.size W0 wh := (HBF.out.trans (HBG.out.mono HBF.out.size)).trans (hf.bl.mono HBR.out.size)
          have HBH := Lib.hid hBh
          have hx0 := pw_cell_below hBh (blk_cell HBK.out 1)
          have d1 := blk_cell (hf.kb.blk (blk_below HM.out.rb HBG.out) HRI.out (by simp)) 1
          simp at hx0 d1
          have y0 := cell_regrown hx0
          have y1 := cell_regrown d1
          have CL : ∀ d os, Calls Tryd.prog 17 #[.pointer (some ⟨g, 0, none⟩)] (grow (redrawn wh d) os) fun e w'' => e = .returned (.int .i64 (xb.length : Int)) ∧ ∃ p : Regrown, w'' = grow (redrawn wh p.d) p.os := fun d os =>
            Gen.calls_regrown ((left_calls (grow (redrawn wh d) os) W0.heap.size g v xb 0 0 (rdr_below hpr.rd (below_regrown wh d os)) (by omega) (by omega)).mono fun e w' ⟨he, hb⟩ => ⟨by rw [he, Int.sub_zero], (below_regrown wh d os).trans (hb.mono (below_regrown wh d os).size)⟩)
          clear how hms hf hpr hBh l1 l2 l3 hx0 d1
          go_wp2_with fail
          refine wp_region_quiet_below (by kernel_rfl) (by kernel_rfl) ?_
          repeat (quiet_step (first | with_reducible exact CL _ _))
          refine wpQuiet_nil ?_
          intro wi hw'
          have hbi : Below wh.heap.size wh wi := by obtain ⟨⟨dq, osq⟩, hw''⟩ := hw'; rw [hw'']; exact below_regrown _ dq osq
          have HBI := Lib.hid hbi
          clear hw' hbi y0 y1 CL
          go_wp2_with fail
          exact ⟨⟨HBH.out.trans (HBI.out.mono HBH.out.size), Nat.le_trans HS2.out (Nat.le_trans HM.out.kb.1 (Nat.le_trans HBG.out.size (Nat.le_trans HF.out.bl.size HBI.out.size))), .inr (.inr ⟨by go_num, _, _, _, _, _, _, _, _, _, _, mid_two HP1.out HM.out HRI.out HEI.out HGB.out HBG.out HF.out.kb HBI.out⟩)⟩, by simp [intOf]⟩
    · have HBL := Lib.hid hb
      have HS2 := Lib.hid hsz
      have HP2 := Lib.hid hp2
      clear hb hsz hp2
      go_wp2_with fail
      go_loopw [8] (fun i wr => ∃ (k : Nat) (s s' : RS), i = .int .i64 k ∧ k ≤ os.length ∧ k ≤ 400 ∧ s.Ok xa ∧ s'.Ok xb ∧ P2 wr W0.heap.size (w.heap.size + 1) (w.heap.size + 1 + 1) g0 h0 v0 Ae0 ce0 xa s g1 h1 v1 Ae1 ce1 xb s' ∧ Below W0.heap.size W0 wr) (fun i _ => 400 - (intOf i).toNat)
      case atStart => exact ⟨0, ⟨0, 0⟩, ⟨0, 0⟩, rfl, by omega, by omega, ⟨by simp, by simp⟩, ⟨by simp, by simp⟩, HP2.out, HBL.out⟩
      case round =>
        obtain ⟨k, s, s', rfl, hk, hk4, hok, hok', hp, hb⟩ := hrel
        obtain ⟨w0, rfl⟩ : ∃ w0, w0 = wr := ⟨_, rfl⟩
        have HP := Lib.hid hp
        have HB := Lib.hid hb
        have HOK := Lib.hid hok
        have HOK' := Lib.hid hok'
        have hx2 := pw_cell_below hb (blk_cell HBK.out 2)
        simp at hx2
        by_cases hgo : k < os.length ∧ k < 400
        · obtain ⟨z1, z2⟩ := hgo
          obtain ⟨ad, Ab, cb, rfl, hop⟩ := op_at (Kd.C_below HR.out HB.out) k z1 rfl
          obtain ⟨o, ho⟩ : ∃ o, o = os[k] := ⟨_, rfl⟩
          have hvo := HV.out os[k] (List.getElem_mem z1)
          rw [← ho] at hop hvo
          have q0 := hop.c0
          have q1 := hop.c1
          have q2 := hop.c2
          have q3 := hop.c3
          have q4 := hop.c4
          obtain ⟨k0, k1, k2, k3, bb⟩ := o
          have HVO := Lib.hid hvo
          have i1 : (k : Int) < (os.length : Int) := by omega
          have i2 : (k : Int) < 400 := by omega
          have i3 : (0 : Int) ≤ (k : Int) := by omega
          have CIn := Lib.hid (fun w => into_gen k1 2 w (by omega) (by omega) hvo.1.1 hvo.1.2)
          obtain ⟨w1, hw1⟩ : ∃ w1, w1 = w0.alloc (.cells #[.int .i64 k0, .int .i64 k1, .int .i64 k2, .int .u64 k3, .slice Ab bb.length cb] 39) := ⟨_, rfl⟩
          have hbw : Below w0.heap.size w0 w1 := by rw [hw1]; exact (Below.refl _ _).alloc (Nat.le_refl _) _
          have hkw := blk_new w0 (.cells #[.int .i64 k0, .int .i64 k1, .int .i64 k2, .int .u64 k3, .slice Ab bb.length cb] 39)
          rw [← hw1] at hkw
          have y0 := blk_cell hkw 0
          have y1 := blk_cell hkw 1
          have y2 := blk_cell hkw 2
          have y3 := blk_cell hkw 3
          have y4 := blk_cell hkw 4
          simp at y0 y1 y2 y3 y4
          have HW1 := Lib.hid hw1
          have hp1 := hp.below hbw
          have hb1 := hb.trans (hbw.mono hb.size)
          have HP1 := Lib.hid hp1
          have HB1 := Lib.hid hb1
          obtain ⟨n3, rfl⟩ := Int.eq_ofNat_of_zero_le hvo.2.2.1
          clear hop ho hvo hb hp hok hok' hw1 hbw hkw
          go_wp2_with fail
          refine (CIn.out _).mono ?_; rintro e w1' ⟨rfl, rfl⟩
          rw [← HW1.out]
          clear q0 q1 q2 q3 q4
          rcases (show k1 % 2 = 0 ∨ k1 % 2 = 1 by omega) with em | em
          · rw [em]
            have d0 := blk_cell hp1.rb 0
            have d1 := blk_cell hp1.eb 0
            simp at d0 d1
            have CRD : Hid (∀ W', Below w1.heap.size w1 W' → _) := fun W' hw => reads_calls k0 k1 k2 n3 bb Ab cb W' W0.heap.size g0 h0 v0 Ae0 ce0 xa s (HP1.out.below hw).pr HOK.out (Nat.le_trans HB1.out.size hw.size) HX0.out (by omega) (HT.out.below (HB1.out.trans (hw.mono HB1.out.size)) (by have := HZ.out; have := HSZ.out; omega)) (by have := HZ.out; have := HSZ.out; have := HB1.out.size; have := hw.size; omega) HVO.out.2.1.1 HVO.out.2.1.2
            clear hp1 hb1 em
            go_wp2_with fail
            first | (go_region_law (first | (go_simp; go_at_call 19; refine (CRD.out _ (by first | exact Below.refl _ _ | exact (Below.refl _ _).drew | exact pw_below_drewN (Below.refl _ _) _)).mono ?_; rintro e w2 ⟨rfl, h2⟩; have H2 := Lib.hid h2; clear h2))) | fail
            all_goals go_wp2_with fail
            all_goals exact ⟨⟨k + 1, _, s', by go_num, by omega, by omega, rOp_ok HOK.out k0 k2 n3, HOK'.out, (HP1.out.below ((Below.refl _ w1).drew)).one H2.out, (HB1.out.trans ((Below.refl _ w1).drew.mono HB1.out.size)).trans H2.out.bl⟩, by simp [intOf]; omega⟩
          · rw [em]
            have d0 := blk_cell hp1.rb 1
            have d1 := blk_cell hp1.eb 1
            simp at d0 d1
            have CRD : Hid (∀ W', Below w1.heap.size w1 W' → _) := fun W' hw => reads_calls k0 k1 k2 n3 bb Ab cb W' W0.heap.size g1 h1 v1 Ae1 ce1 xb s' (HP1.out.below hw).pr' HOK'.out (Nat.le_trans HB1.out.size hw.size) HX1.out (by omega) (HT.out.below (HB1.out.trans (hw.mono HB1.out.size)) (by have := HZ.out; have := HSZ.out; omega)) (by have := HZ.out; have := HSZ.out; have := HB1.out.size; have := hw.size; omega) HVO.out.2.1.1 HVO.out.2.1.2
            clear hp1 hb1 em
            go_wp2_with fail
            first | (go_region_law (first | (go_simp; go_at_call 19; refine (CRD.out _ (by first | exact Below.refl _ _ | exact (Below.refl _ _).drew | exact pw_below_drewN (Below.refl _ _) _)).mono ?_; rintro e w2 ⟨rfl, h2⟩; have H2 := Lib.hid h2; clear h2))) | fail
            all_goals go_wp2_with fail
            all_goals exact ⟨⟨k + 1, s, _, by go_num, by omega, by omega, HOK.out, rOp_ok HOK'.out k0 k2 n3, (HP1.out.below ((Below.refl _ w1).drew)).two H2.out, (HB1.out.trans ((Below.refl _ w1).drew.mono HB1.out.size)).trans H2.out.bl⟩, by simp [intOf]; omega⟩
        · have hcase : ¬ (k : Int) < (os.length : Int) ∨ ((k : Int) < (os.length : Int) ∧ ¬ (k : Int) < 400) := by omega
          have y0 := cell_regrown (show w0.cell? ⟨w.heap.size + 1, 0, none⟩ = some (pt g0) by have h := blk_cell hp.rb 0; simpa using h)
          have y1 := cell_regrown (show w0.cell? ⟨w.heap.size + 1, 1, none⟩ = some (pt g1) by have h := blk_cell hp.rb 1; simpa using h)
          have y2 := cell_regrown (show w0.cell? ⟨w.heap.size + 1 + 1, 0, none⟩ = some (pt h0) by have h := blk_cell hp.eb 0; simpa using h)
          have y3 := cell_regrown (show w0.cell? ⟨w.heap.size + 1 + 1, 1, none⟩ = some (pt h1) by have h := blk_cell hp.eb 1; simpa using h)
          have y4 := cell_regrown (show w0.cell? ⟨h0, 1, none⟩ = some (.int .i64 (s.at_ : Int)) by have h := blk_cell hp.pr.ey.blk 1; simpa using h)
          have y5 := cell_regrown (show w0.cell? ⟨h0, 2, none⟩ = some (.int .i64 (errN s.met)) by have h := blk_cell hp.pr.ey.blk 2; simpa using h)
          have C1 : ∀ d os, Calls Tryd.prog 20 #[pt g0] (grow (redrawn w0 d) os) fun e w'' => e = .returned (.int .i64 (s.at_ : Int)) ∧ ∃ p : Regrown, w'' = grow (redrawn w0 p.d) p.os := fun d os =>
            Gen.calls_regrown ((at_calls (grow (redrawn w0 d) os) W0.heap.size g0 v0 xa s (rdr_below hp.pr.rd (below_regrown w0 d os))).mono fun e w' ⟨he, hw⟩ => ⟨he, by rw [hw]; exact below_regrown w0 d os⟩)
          have C2 : ∀ d os, Calls Tryd.prog 22 #[pt g0] (grow (redrawn w0 d) os) fun e w'' => e = .returned (.int .i64 (errN s.met)) ∧ ∃ p : Regrown, w'' = grow (redrawn w0 p.d) p.os := fun d os =>
            Gen.calls_regrown ((fault_calls (grow (redrawn w0 d) os) W0.heap.size g0 v0 xa s (rdr_below hp.pr.rd (below_regrown w0 d os)) hok (HT.out.below (hb.trans ((below_regrown w0 d os).mono hb.size)) (by have := HZ.out; have := HSZ.out; omega))).mono fun e w' ⟨he, hw⟩ => ⟨he, by rw [hw]; exact below_regrown w0 d os⟩)
          have C3 : ∀ (v : Int) d os, Calls Tryd.prog 21 #[.int .i64 v] (grow (redrawn w0 d) os) fun e w'' => e = .returned (.int .i64 v) ∧ ∃ p : Regrown, w'' = grow (redrawn w0 p.d) p.os := fun v d os =>
            Gen.calls_regrown ((num1_calls v (grow (redrawn w0 d) os)).mono fun e w' ⟨he, hw⟩ => ⟨he, by rw [hw]; exact below_regrown w0 d os⟩)
          have C4 : ∀ d os, Calls Tryd.prog 23 #[pt g1] (grow (redrawn w0 d) os) fun e w'' => e = .returned (.int .i64 (rEnd xb s')) ∧ ∃ p : Regrown, w'' = grow (redrawn w0 p.d) p.os := fun d os =>
            Gen.calls_regrown ((end_calls (grow (redrawn w0 d) os) W0.heap.size g1 v1 xb s' (rdr_below hp.pr'.rd (below_regrown w0 d os)) hok' (HT.out.below (hb.trans ((below_regrown w0 d os).mono hb.size)) (by have := HZ.out; have := HSZ.out; omega)) (by have := HZ.out; have := HSZ.out; have := hb.size; have := (below_regrown w0 d os).size; omega)).mono fun e w' ⟨he, hw⟩ => ⟨he, (below_regrown w0 d os).trans (hw.mono (below_regrown w0 d os).size)⟩)
          have C5 : ∀ d os, Calls Tryd.prog 24 #[pt h1] (grow (redrawn w0 d) os) fun e w'' => e = .returned (.int .i64 (rEnd xb s')) ∧ ∃ p : Regrown, w'' = grow (redrawn w0 p.d) p.os := fun d os =>
            Gen.calls_regrown ((eend_calls (grow (redrawn w0 d) os) W0.heap.size h1 Ae1 ce1 xb s' (hp.pr'.ey.below (below_regrown w0 d os)) hok').mono fun e w' ⟨he, hw⟩ => ⟨he, (below_regrown w0 d os).trans (hw.mono (below_regrown w0 d os).size)⟩)
          clear hgo hb hp hok hok'
          rcases hcase with z0 | ⟨z0, z1⟩
          all_goals
            go_wp2_with fail
            refine wp_region_quiet_below (by kernel_rfl) (by kernel_rfl) ?_
            repeat (quiet_step (first | with_reducible exact C1 _ _ | with_reducible exact C2 _ _ | with_reducible exact C3 _ _ _ | with_reducible exact C4 _ _ | with_reducible exact C5 _ _))
            refine wpQuiet_nil ?_
            intro wi hw'
            have hbi : Below w0.heap.size w0 wi := by obtain ⟨⟨dq, osq⟩, hw''⟩ := hw'; rw [hw'']; exact below_regrown _ dq osq
            have HBI := Lib.hid hbi
            clear hw' hbi
            go_wp2_with fail
            go_ret
            exact ⟨by simp, HB0.out.trans ((HB.out.trans (HBI.out.mono HB.out.size)).mono (by have := HSZ.out; omega))⟩
end Go.Proofs.YtoeiaimoppmjdaaDoor.CodeReads
