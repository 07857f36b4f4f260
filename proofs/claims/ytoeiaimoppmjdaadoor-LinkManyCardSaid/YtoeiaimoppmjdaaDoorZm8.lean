/- Merged by merge2.py out of the texts: RefFit, RefEnc, RefDec, ManyP, LinkMany, LinkManyC. -/
import Derived.Test.YtoeiaimoppmjdaaDoorZm3
import Derived.Deep.DeepCutAuto
import Derived.Deep.CutBlock
import Derived.Test.YtoeiaimoppmjdaaDoorZm2
import Derived.Test.YtoeiaimoppmjdaaDoorZm6
import Derived.Test.YtoeiaimoppmjdaaDoorRefSum
import Derived.Test.YtoeiaimoppmjdaaDoorInto
import Derived.Test.YtoeiaimoppmjdaaDoorTexts
import Derived.Test.YtoeiaimoppmjdaaDoorZm5
import Derived.Test.YtoeiaimoppmjdaaDoorZm1
import Derived.Test.YtoeiaimoppmjdaaDoorEq
import Derived.Test.YtoeiaimoppmjdaaDoorZm4
import Derived.Test.YtoeiaimoppmjdaaDoorZm7
import Derived.Test.YtoeiaimoppmjdaaDoorErrTab
/- Contract: the document's Fit. -/
namespace Go.Proofs.YtoeiaimoppmjdaaDoor.Lk
open Go.RowKit Go.Proofs.YtoeiaimoppmjdaaDoorW.PrintWords Go.Proofs.YtoeiaimoppmjdaaDoor.Mem Go.Proofs.YtoeiaimoppmjdaaDoor.Wr Go.Proofs.YtoeiaimoppmjdaaDoor.Bytes
set_option linter.unusedVariables false
set_option linter.unusedSimpArgs false
def midB (f : Frm) : Bool := livesB f && decide (f.seq ≤ 1099511627776) && decide (f.ack ≤ 1099511627776)
theorem not_ends {f : Frm} {b : Bool} (h : b = true ↔ ¬ (0 ≤ f.src ∧ f.src ≤ 8 ∧ 0 ≤ f.dst ∧ f.dst ≤ 8)) : (!(endsB f)) = b := by
  rw [Bool.eq_iff_iff, h]; simp [endsB, and_assoc]; omega
theorem not_mid {f : Frm} {b : Bool} (h : b = true ↔ ¬ (1 ≤ f.mine ∧ f.mine ≤ 1099511627776 ∧ f.yours ≤ 1099511627776 ∧ f.seq ≤ 1099511627776 ∧ f.ack ≤ 1099511627776)) : (!(midB f)) = b := by
  rw [Bool.eq_iff_iff, h]; simp [midB, livesB, and_assoc]; omega
set_option maxRecDepth 20000 in
set_option maxHeartbeats 3200000 in
theorem rfit_calls (f : Frm) (A : Option Addr) (c : Nat) (W : World) : Calls Tryd.prog 98 #[.agg (frC f A c)] W fun e w' => e = .returned (.bool (fitB f)) ∧ Below W.heap.size W w' := by
  obtain ⟨W1, hW1⟩ : ∃ W1, W1 = W.alloc (.cells (frC f A c) 69) := ⟨_, rfl⟩
  obtain ⟨bo, hbo⟩ : ∃ bo, bo = W.heap.size := ⟨_, rfl⟩
  have h1 := (St.start W).newB (frC f A c) 69
  rw [← hW1, ← hbo] at h1
  have x0 := h1.cellOf (g := bo) (cs := frC f A c) (t := 69) (by simp) 0 rfl
  have x1 := h1.cellOf (g := bo) (cs := frC f A c) (t := 69) (by simp) 1 rfl
  have x2 := h1.cellOf (g := bo) (cs := frC f A c) (t := 69) (by simp) 2 rfl
  have x3 := h1.cellOf (g := bo) (cs := frC f A c) (t := 69) (by simp) 3 rfl
  have x4 := h1.cellOf (g := bo) (cs := frC f A c) (t := 69) (by simp) 4 rfl
  have x5 := h1.cellOf (g := bo) (cs := frC f A c) (t := 69) (by simp) 5 rfl
  have x6 := h1.cellOf (g := bo) (cs := frC f A c) (t := 69) (by simp) 6 rfl
  have HB1 := Lib.hid h1.bl
  have HW1 := Lib.hid hW1
  have HBO := Lib.hid hbo
  clear h1 hW1 hbo
  go_enter Tryd.func98, Tryd.ntmps98
  go_upto_region 1 with fail
  rw [← HW1.out, ← HBO.out]
  go_cut [20] (fun s20 wx => s20 = .bool (!(endsB f)) ∧ wx = W1)
  case first =>
    go_wp2_with fail
    all_goals
      go_meet
      refine ⟨?_, rfl⟩
      exact bool_eq (not_ends (f := f) (by simp only [Bool.or_eq_true, decide_eq_true_eq, Bool.false_eq_true, true_iff, false_iff]; omega))
  case rest =>
    obtain ⟨hs, hw⟩ := hcut
    subst hs
    rw [hw]
    clear hw
    have hfit : fitB f = (endsB f && midB f && decide (f.body.length ≤ 2048) && (decide (0 < f.seq) || decide (f.body.length = 0))) := by unfold midB fitB; simp only [Bool.and_assoc]
    cases he : endsB f with
    | false =>
      rw [he] at hfit
      have HF := Lib.hid hfit
      clear hfit he
      go_wp2_with fail
      go_ret
      exact ⟨by rw [HF.out]; rfl, HB1.out⟩
    | true =>
      rw [he] at hfit
      have HF := Lib.hid hfit
      clear hfit he
      go_upto_region 3 with fail
      go_cut [43] (fun s43 wx => s43 = .bool (!(midB f)) ∧ wx = W1)
      case first =>
        go_wp2_with fail
        all_goals
          go_meet
          refine ⟨?_, rfl⟩
          exact bool_eq (not_mid (f := f) (by simp only [Bool.or_eq_true, decide_eq_true_eq, Bool.false_eq_true, true_iff, false_iff]; omega))
      case rest =>
        obtain ⟨hs, hw⟩ := hcut
        subst hs
        rw [hw]
        clear hw
        cases hm : midB f with
        | false =>
          have HFF := HF.out
          rw [hm] at HFF
          have HF2 := Lib.hid HFF
          clear HFF hm
          go_wp2_with fail
          go_ret
          exact ⟨by rw [HF2.out]; rfl, HB1.out⟩
        | true =>
          have HFF := HF.out
          rw [hm] at HFF
          have HF2 := Lib.hid HFF
          clear HFF hm HF
          go_wp2_with fail
          all_goals
            go_ret
            refine ⟨bool_end ?_, HB1.out⟩
            rw [HF2.out, Bool.eq_iff_iff]
            simp only [Bool.and_eq_true, Bool.or_eq_true, decide_eq_true_eq, beq_iff_eq, Bool.false_and, Bool.and_false, Bool.true_and, Bool.false_eq_true, false_and, true_and, false_iff, true_iff, iff_true, iff_false, not_false_eq_true]
            try omega
end Go.Proofs.YtoeiaimoppmjdaaDoor.Lk
/- Contract: the document's Encode. Printed by gen_refenc.py. -/
namespace Go.Proofs.YtoeiaimoppmjdaaDoor.Lk
open Go.RowKit Go.Proofs.YtoeiaimoppmjdaaDoorW.PrintWords Go.Proofs.YtoeiaimoppmjdaaDoor.Mem Go.Proofs.YtoeiaimoppmjdaaDoor.Wr Go.Proofs.YtoeiaimoppmjdaaDoor.Bytes Go.Proofs.YtoeiaimoppmjdaaDoor.App Go.Proofs.YtoeiaimoppmjdaaDoor.Crc
set_option linter.unusedVariables false
set_option linter.unusedSimpArgs false
theorem vr_pos (n : Nat) : 0 < (vr n).length := by rw [vr]; split <;> simp
/-- What a call hands over as its own, put behind a list. -/
theorem app_own {w0 W w1 : World} {R : List Ent} {A : Option Addr} {c : Nat} {ys : List Int} {u : Value} {xs zs : List Int} (h : St w0 W (byR (.slice A ys.length c) ys ++ R)) (hV : byV (.slice A ys.length c) ys) (hb : Below W.heap.size W w1) (ho : w1.ownsRow W.heap.size 5 1 u xs.length (encs I xs)) (hp : 0 < xs.length) (hz : zs = ys ++ xs) (hl : zs.length ≤ 140737488355328) :
    ∃ (Au : Addr) (cu : Nat) (A' : Option Addr) (c' : Nat) (W' : World), u = .slice (some Au) xs.length cu ∧ (Builtin.append_ #[22, 22] 22 #[.slice A ys.length c, .slice (some Au) xs.length cu]).run Tryd.prog w1 = .ok (.slice A' zs.length c') W' ∧ St w0 W' (byR (.slice A' zs.length c') zs ++ R) ∧ byV (.slice A' zs.length c') zs := by
  obtain ⟨h1, hu⟩ := h.fresh (e := 5) hb ho
  obtain ⟨Ao, cu, e⟩ := byV_form (xs := xs) hu
  subst e
  obtain ⟨g, e⟩ : ∃ g, Ao = some ⟨g, 0, none⟩ := by
    rcases hu.2 with ⟨q1, q2⟩ | ⟨g, _, q1, _⟩
    · omega
    · injection q1 with q1; exact ⟨g, q1⟩
  subst e
  have hr : ReadsOf I 0 w1 (some ⟨g, 0, none⟩) xs.length xs := by_reads h1 (fun x => by rw [cnt_append]; exact Nat.le_add_right _ _) hu
  obtain ⟨v', W', hrun, h2, hv2⟩ := by_appends (h1.re (M := byR (.slice A ys.length c) ys ++ R) (fun x => by simp only [cnt_append]; omega)) hV xs ⟨g, 0, none⟩ cu hr (by rw [hz] at hl; simpa using hl)
  rw [← hz] at h2 hv2
  obtain ⟨A', c', e⟩ := byV_form hv2
  subst e
  exact ⟨⟨g, 0, none⟩, cu, A', c', W', rfl, hrun, h2, hv2⟩
set_option maxRecDepth 20000 in
set_option maxHeartbeats 6400000 in
theorem renc_calls (f : Frm) (A : Option Addr) (c : Nat) (W : World) (hr : ReadsOf I 0 W A f.body.length f.body) (hb : Byt f.body) :
    Calls Tryd.prog 99 #[.agg (frC f A c)] W fun e w' => ∃ v, e = .returned v ∧ byV v (encF f) ∧ St W w' (byR v (encF f)) := by
  obtain ⟨W1, hW1⟩ : ∃ W1, W1 = W.alloc (.cells (frC f A c) 69) := ⟨_, rfl⟩
  obtain ⟨bo, hbo⟩ : ∃ bo, bo = W.heap.size := ⟨_, rfl⟩
  have h1 := (St.start W).newB (frC f A c) 69
  rw [← hW1, ← hbo] at h1
  have x0 := h1.cellOf (g := bo) (cs := frC f A c) (t := 69) (by simp) 0 rfl
  have x1 := h1.cellOf (g := bo) (cs := frC f A c) (t := 69) (by simp) 1 rfl
  have x2 := h1.cellOf (g := bo) (cs := frC f A c) (t := 69) (by simp) 2 rfl
  have x3 := h1.cellOf (g := bo) (cs := frC f A c) (t := 69) (by simp) 3 rfl
  have x4 := h1.cellOf (g := bo) (cs := frC f A c) (t := 69) (by simp) 4 rfl
  have x5 := h1.cellOf (g := bo) (cs := frC f A c) (t := 69) (by simp) 5 rfl
  have x6 := h1.cellOf (g := bo) (cs := frC f A c) (t := 69) (by simp) 6 rfl
  have CF := Lib.hid (rfit_calls f A c W1)
  have H1 := Lib.hid h1
  have HW1 := Lib.hid hW1
  have HBO := Lib.hid hbo
  have HR := Lib.hid hr
  have HBY := Lib.hid hb
  clear h1 hW1 hbo hr hb
  go_enter Tryd.func99, Tryd.ntmps99
  go_upto_region 1 with fail
  rw [← HW1.out, ← HBO.out]
  go_wp2_with fail
  refine CF.out.mono ?_; rintro e w2 ⟨rfl, hb2⟩
  have H2 := Lib.hid (H1.out.below hb2)
  clear hb2 x0 x1 x2 x3 x4 x5 x6
  cases hf : fitB f with
  | false =>
    have he : encF f = [] := by unfold encF; rw [hf]; rfl
    have HE := Lib.hid he
    clear hf he
    go_wp2_with fail
    go_ret
    rw [HE.out]
    exact ⟨NL, rfl, byV_nil, H2.out.re (fun x => by simp only [byR_nil, cnt_cons, cnt_nil]; omega)⟩
  | true =>
    have hfit := (fit_iff f).1 hf
    have he := encF_fit hfit
    have u0 : IntKind.u8.wrap f.src = f.src := IntWalk.u8_in _ ⟨hfit.f0, by have := hfit.f1; omega⟩
    have u1 : IntKind.u8.wrap f.dst = f.dst := IntWalk.u8_in _ ⟨hfit.t0, by have := hfit.t1; omega⟩
    have HE := Lib.hid he
    have HFIT := Lib.hid hfit
    obtain ⟨z0, hz0⟩ : ∃ z0 : List Int, z0 = [f.src, f.dst] := ⟨_, rfl⟩
    obtain ⟨W3, hW3⟩ : ∃ W3, W3 = w2.alloc (.cells #[.int .u8 f.src, .int .u8 f.dst] 5) := ⟨_, rfl⟩
    obtain ⟨b3, hb3⟩ : ∃ b3, b3 = w2.heap.size := ⟨_, rfl⟩
    have h3 : St W W3 (byR (.slice (some ⟨b3, 0, none⟩) z0.length 2) z0 ++ [B bo (frC f A c) 69]) := by
      rw [hW3, hb3, hz0]
      exact H2.out.new (.cells #[.int .u8 f.src, .int .u8 f.dst] 5) (P := rowP 2 5 1 2 (encs I [f.src, f.dst])) ⟨_, rfl, rfl, rfl⟩
    have l0 : z0.length = 2 := by rw [hz0]; rfl
    have hv3 : byV (.slice (some ⟨b3, 0, none⟩) z0.length 2) z0 := by rw [hz0]; exact ⟨rfl, .inr ⟨b3, 2, rfl, Nat.le_refl _, by decide⟩⟩
    have HZ0 := Lib.hid hz0
    have L0 := Lib.hid l0
    have HH0 := Lib.hid h3
    have HV0 := Lib.hid hv3
    have HW3 := Lib.hid hW3
    have HB3 := Lib.hid hb3
    have x0 := H2.out.cellOf (g := bo) (cs := frC f A c) (t := 69) (by simp) 0 rfl
    have x1 := H2.out.cellOf (g := bo) (cs := frC f A c) (t := 69) (by simp) 1 rfl
    clear hf hfit he hz0 hW3 hb3 h3 l0 hv3
    go_upto_region 4 with fail
    rw [← HW3.out, ← HB3.out]
    clear x0 x1 u0 u1
    have x2 := HH0.out.cellOf (g := bo) (cs := frC f A c) (t := 69) (by simp) 2 rfl
    have CV0 := Lib.hid (rvar_calls f.mine W3 W3.heap.size (Nat.le_refl _) (by have := HFIT.out.m1; omega))
    go_wp2_with fail
    refine CV0.out.mono ?_; rintro e v0 ⟨u, rfl, ho, hb⟩
    obtain ⟨z1, hz1⟩ : ∃ z1, z1 = z0 ++ (vr f.mine) := ⟨_, rfl⟩
    have l1 : z1.length ≤ 12 := by
      have q := vr_length f.mine 9 (by have := HFIT.out.m1; omega)
      have := L0.out
      rw [hz1, List.length_append]; omega
    obtain ⟨Au0, cu0, A1, c1, V1, rfl, hrun, h9, hv9⟩ := app_own HH0.out HV0.out hb ho (vr_pos _) hz1 (by omega)
    rw [L0.out] at hrun
    have HZ1 := Lib.hid hz1
    have L1 := Lib.hid l1
    have HH1 := Lib.hid h9
    have HV1 := Lib.hid hv9
    have HRN := Lib.hid hrun
    clear ho hb hz1 l1 h9 hv9 hrun x2
    go_upto_region 5 with (at_builtin; refine wpList_append_run (o := ⟨some 18, _, _, _, _, _⟩) rfl (.tmp 14) (.tmp 17) 22 rfl (.slice (some ⟨b3, 0, none⟩) 2 2) (.slice (some Au0) (vr f.mine).length cu0) (.slice A1 z1.length c1) V1 rfl rfl HRN.out ?_)
    have x3 := HH1.out.cellOf (g := bo) (cs := frC f A c) (t := 69) (by simp) 3 rfl
    have CV1 := Lib.hid (rvar_calls f.yours V1 V1.heap.size (Nat.le_refl _) (by have := HFIT.out.y; omega))
    go_wp2_with fail
    refine CV1.out.mono ?_; rintro e v1 ⟨u, rfl, ho, hb⟩
    obtain ⟨z2, hz2⟩ : ∃ z2, z2 = z1 ++ (vr f.yours) := ⟨_, rfl⟩
    have l2 : z2.length ≤ 22 := by
      have q := vr_length f.yours 9 (by have := HFIT.out.y; omega)
      have := L1.out
      rw [hz2, List.length_append]; omega
    obtain ⟨Au1, cu1, A2, c2, V2, rfl, hrun, h10, hv10⟩ := app_own HH1.out HV1.out hb ho (vr_pos _) hz2 (by omega)
    have HZ2 := Lib.hid hz2
    have L2 := Lib.hid l2
    have HH2 := Lib.hid h10
    have HV2 := Lib.hid hv10
    have HRN := Lib.hid hrun
    clear ho hb hz2 l2 h10 hv10 hrun x3
    go_upto_region 6 with (at_builtin; refine wpList_append_run (o := ⟨some 23, _, _, _, _, _⟩) rfl (.tmp 19) (.tmp 22) 22 rfl (.slice A1 z1.length c1) (.slice (some Au1) (vr f.yours).length cu1) (.slice A2 z2.length c2) V2 rfl rfl HRN.out ?_)
    have x4 := HH2.out.cellOf (g := bo) (cs := frC f A c) (t := 69) (by simp) 4 rfl
    have CV2 := Lib.hid (rvar_calls f.seq V2 V2.heap.size (Nat.le_refl _) (by have := HFIT.out.s; omega))
    go_wp2_with fail
    refine CV2.out.mono ?_; rintro e v2 ⟨u, rfl, ho, hb⟩
    obtain ⟨z3, hz3⟩ : ∃ z3, z3 = z2 ++ (vr f.seq) := ⟨_, rfl⟩
    have l3 : z3.length ≤ 32 := by
      have q := vr_length f.seq 9 (by have := HFIT.out.s; omega)
      have := L2.out
      rw [hz3, List.length_append]; omega
    obtain ⟨Au2, cu2, A3, c3, V3, rfl, hrun, h11, hv11⟩ := app_own HH2.out HV2.out hb ho (vr_pos _) hz3 (by omega)
    have HZ3 := Lib.hid hz3
    have L3 := Lib.hid l3
    have HH3 := Lib.hid h11
    have HV3 := Lib.hid hv11
    have HRN := Lib.hid hrun
    clear ho hb hz3 l3 h11 hv11 hrun x4
    go_upto_region 7 with (at_builtin; refine wpList_append_run (o := ⟨some 28, _, _, _, _, _⟩) rfl (.tmp 24) (.tmp 27) 22 rfl (.slice A2 z2.length c2) (.slice (some Au2) (vr f.seq).length cu2) (.slice A3 z3.length c3) V3 rfl rfl HRN.out ?_)
    have x5 := HH3.out.cellOf (g := bo) (cs := frC f A c) (t := 69) (by simp) 5 rfl
    have CV3 := Lib.hid (rvar_calls f.ack V3 V3.heap.size (Nat.le_refl _) (by have := HFIT.out.a; omega))
    go_wp2_with fail
    refine CV3.out.mono ?_; rintro e v3 ⟨u, rfl, ho, hb⟩
    obtain ⟨z4, hz4⟩ : ∃ z4, z4 = z3 ++ (vr f.ack) := ⟨_, rfl⟩
    have l4 : z4.length ≤ 42 := by
      have q := vr_length f.ack 9 (by have := HFIT.out.a; omega)
      have := L3.out
      rw [hz4, List.length_append]; omega
    obtain ⟨Au3, cu3, A4, c4, V4, rfl, hrun, h12, hv12⟩ := app_own HH3.out HV3.out hb ho (vr_pos _) hz4 (by omega)
    have HZ4 := Lib.hid hz4
    have L4 := Lib.hid l4
    have HH4 := Lib.hid h12
    have HV4 := Lib.hid hv12
    have HRN := Lib.hid hrun
    clear ho hb hz4 l4 h12 hv12 hrun x5
    go_upto_region 8 with (at_builtin; refine wpList_append_run (o := ⟨some 33, _, _, _, _, _⟩) rfl (.tmp 29) (.tmp 32) 22 rfl (.slice A3 z3.length c3) (.slice (some Au3) (vr f.ack).length cu3) (.slice A4 z4.length c4) V4 rfl rfl HRN.out ?_)
    have x6 := HH4.out.cellOf (g := bo) (cs := frC f A c) (t := 69) (by simp) 6 rfl
    have CV4 := Lib.hid (rtext_calls f.body A c V4 V4.heap.size (Nat.le_refl _) (HR.out.below HH4.out.bl) (by have := HFIT.out.b; omega))
    obtain ⟨tx, htx⟩ : ∃ tx, tx = vr f.body.length ++ f.body := ⟨_, rfl⟩
    rw [← htx] at CV4
    have HTX := Lib.hid htx
    clear htx
    go_wp2_with fail
    refine CV4.out.mono ?_; rintro e v4 ⟨u, rfl, ho, hb⟩
    obtain ⟨z5, hz5⟩ : ∃ z5, z5 = z4 ++ tx := ⟨_, rfl⟩
    have l5 : z5.length ≤ 2200 := by
      have q := vr_length f.body.length 9 (by have := HFIT.out.b; omega)
      have := L4.out
      have := HFIT.out.b
      rw [hz5, HTX.out, List.length_append, List.length_append]; omega
    obtain ⟨Au4, cu4, A5, c5, V5, rfl, hrun, h13, hv13⟩ := app_own HH4.out HV4.out hb ho (by rw [HTX.out, List.length_append]; have := vr_pos f.body.length; omega) hz5 (by omega)
    have HZ5 := Lib.hid hz5
    have L5 := Lib.hid l5
    have HH5 := Lib.hid h13
    have HV5 := Lib.hid hv13
    have HRN := Lib.hid hrun
    clear ho hb hz5 l5 h13 hv13 hrun x6
    go_upto_region 9 with (at_builtin; refine wpList_append_run (o := ⟨some 38, _, _, _, _, _⟩) rfl (.tmp 34) (.tmp 37) 22 rfl (.slice A4 z4.length c4) (.slice (some Au4) tx.length cu4) (.slice A5 z5.length c5) V5 rfl rfl HRN.out ?_)
    have hah : z5 = ahead f := by rw [HZ5.out, HTX.out, HZ4.out, HZ3.out, HZ2.out, HZ1.out, HZ0.out]; simp [ahead, nums, List.append_assoc]
    have HAH := Lib.hid hah
    have hbz : Byt z5 := by rw [hah]; exact ahead_byt _ HFIT.out HBY.out
    have hlz : z5.length ≤ 2200 := by have := L5.out; omega
    have CS := Lib.hid (rsum_reads z5 A5 c5 V5 (by_reads HH5.out (fun x => by rw [cnt_append]; exact Nat.le_add_right _ _) HV5.out) hbz (by omega))
    clear hah hbz hlz
    go_wp2_with fail
    refine CS.out.mono ?_; rintro e w8 ⟨rfl, hb8⟩
    have HB8 := Lib.hid hb8
    have HH5' := Lib.hid (HH5.out.below hb8)
    have CV5 := Lib.hid (ru32_calls (crc z5).toNat w8 w8.heap.size (Nat.le_refl _) (crc z5).isLt)
    clear hb8
    go_wp2_with fail
    refine CV5.out.mono ?_; rintro e v5 ⟨u, rfl, ho, hb⟩
    obtain ⟨z6, hz6⟩ : ∃ z6, z6 = z5 ++ (fixL (crc z5).toNat 4) := ⟨_, rfl⟩
    have l6 : z6.length ≤ 2204 := by
      have := L5.out
      rw [hz6, List.length_append, fixL_length]; omega
    have ho := (show v5.ownsRow w8.heap.size 5 1 u (fixL (crc z5).toNat 4).length (encs I (fixL (crc z5).toNat 4)) by rw [fixL_length]; exact ho)
    obtain ⟨Au5, cu5, A6, c6, V6, rfl, hrun, h14, hv14⟩ := app_own HH5'.out HV5.out hb ho (by rw [fixL_length]; omega) hz6 (by omega)
    have HZ6 := Lib.hid hz6
    have L6 := Lib.hid l6
    have HH6 := Lib.hid h14
    have HV6 := Lib.hid hv14
    have HRN := Lib.hid hrun
    clear ho hb hz6 l6 h14 hv14 hrun
    go_wp2_with (at_builtin; refine wpList_append_run (o := ⟨some 43, _, _, _, _, _⟩) rfl (.tmp 39) (.tmp 42) 22 rfl (.slice A5 z5.length c5) (.slice (some Au5) (fixL (crc z5).toNat 4).length cu5) (.slice A6 z6.length c6) V6 rfl rfl HRN.out ?_)
    go_ret
    have he : z6 = encF f := by rw [HE.out, HZ6.out, HAH.out]
    refine ⟨.slice A6 z6.length c6, rfl, by rw [he]; have := HV6.out; rw [he] at this; exact this, ?_⟩
    have := HH6.out
    rw [he] at this ⊢
    exact this.re (fun x => by simp only [cnt_append]; omega)
end Go.Proofs.YtoeiaimoppmjdaaDoor.Lk
/- Contract: the document's Decode. Printed by gen_refdec.py. -/
namespace Go.Proofs.YtoeiaimoppmjdaaDoor.Lk
open Go.RowKit Go.Proofs.YtoeiaimoppmjdaaDoorW.PrintWords Go.Proofs.YtoeiaimoppmjdaaDoor.Mem Go.Proofs.YtoeiaimoppmjdaaDoor.Wr Go.Proofs.YtoeiaimoppmjdaaDoor.Bytes Go.Proofs.YtoeiaimoppmjdaaDoor.App
set_option linter.unusedVariables false
set_option linter.unusedSimpArgs false
def eyE (g : Nat) (A : Option Addr) (c : Nat) (xs : List Int) (s : RS) : Ent := B g #[.slice A xs.length c, .int .i64 (s.at_ : Int), .int .i64 (errN s.met)] 34
theorem St.eye {w0 W : World} {R : List Ent} {g : Nat} {A : Option Addr} {c : Nat} {xs : List Int} {s : RS} (h : St w0 W (eyE g A c xs s :: R)) (hr : ReadsOf I 0 w0 A xs.length xs) (hc : xs.length ≤ c) : Eyd W w0.heap.size g A c xs s :=
  ⟨h.hd, h.ge _ (List.mem_cons_self ..), h.reads hr, hc, fun h0 ad e => by
    obtain ⟨ad', e', hcl⟩ := hr.2.2 h0
    obtain rfl : ad = ad' := by rw [e] at e'; injection e'
    have hlt := World.block_lt_of_cell? w0 _ (hcl 0 h0)
    have eb : (ad.add 0).block = ad.block := by unfold Addr.add; split <;> rfl
    rw [eb] at hlt
    have h2 : w0.heap.size ≤ g := h.ge _ (List.mem_cons_self ..)
    show ad.block ≠ g
    omega⟩
theorem St.eyto {w0 W W' : World} {R : List Ent} {g : Nat} {A : Option Addr} {c : Nat} {xs : List Int} {s s1 : RS} (H : St w0 W (eyE g A c xs s :: R)) (t : EyTo W W' w0.heap.size g A c xs s1) : St w0 W' (eyE g A c xs s1 :: R) := by
  have hst := St.step (F := [eyE g A c xs s]) (R := R) H (G := [eyE g A c xs s1]) (H.bl.trans t.bl) t.bl.size (fun k hk hne => t.kb.2 k hk (fun e => hne _ (List.mem_singleton.2 rfl) e.symm) (by simp)) (by simp)
    (fun p hp => by obtain rfl := List.mem_singleton.1 hp; exact ⟨_, t.ey.blk, rfl⟩) (fun p hp => by obtain rfl := List.mem_singleton.1 hp; exact .inl ⟨_, List.mem_singleton.2 rfl, rfl⟩)
  exact hst
theorem St.etaken {w0 W W' : World} {R : List Ent} {g : Nat} {A : Option Addr} {c : Nat} {u : Value} {xs l : List Int} {s s1 : RS} (H : St w0 W (eyE g A c xs s :: R)) (t : EyTo W W' w0.heap.size g A c xs s1) (ho : W'.ownsRow W.heap.size 5 1 u l.length (encs I l)) :
    St w0 W' (byR u l ++ (eyE g A c xs s1 :: R)) ∧ byV u l := by
  have hu : byV u l := own_rowV ho
  have hst := St.step (F := [eyE g A c xs s]) (R := R) H (G := byR u l ++ [eyE g A c xs s1]) (H.bl.trans t.bl) t.bl.size (fun k hk hne => t.kb.2 k hk (fun e => hne _ (List.mem_singleton.2 rfl) e.symm) (by simp)) ?_ ?_ ?_
  · exact ⟨hst.re (fun a => by simp only [cnt_append, cnt_cons, cnt_nil]; omega), hu⟩
  · rw [List.map_append]
    refine List.nodup_append.2 ⟨rowE_nd .., by simp, fun a ha b hb e => ?_⟩
    obtain ⟨p, hp, rfl⟩ := List.mem_map.1 ha
    have h1 := (ho.lt _ (rowE_blk hp hu)).1
    obtain rfl : b = g := by simpa [eyE] using hb
    have h2 : b < W.heap.size := H.lt (List.mem_cons_self ..)
    omega
  · intro p hp
    rcases List.mem_append.1 hp with hp | hp
    · exact own_has ho p hp
    · obtain rfl := List.mem_singleton.1 hp
      exact ⟨_, t.ey.blk, rfl⟩
  · intro p hp
    rcases List.mem_append.1 hp with hp | hp
    · exact .inr ((ho.lt _ (rowE_blk hp hu)).1)
    · obtain rfl := List.mem_singleton.1 hp; exact .inl ⟨_, List.mem_singleton.2 rfl, rfl⟩
theorem St.put7 {w0 W : World} {R : List Ent} {g : Nat} {v0 v1 v2 v3 v4 v5 v6 u0 u1 u2 u3 u4 u5 u6 : Value} {t : TypeId} (h : St w0 W (B g #[v0, v1, v2, v3, v4, v5, v6] t :: R)) :
    St w0 (((((((W.setCell ⟨g, 0, none⟩ u0).setCell ⟨g, 1, none⟩ u1).setCell ⟨g, 2, none⟩ u2).setCell ⟨g, 3, none⟩ u3).setCell ⟨g, 4, none⟩ u4).setCell ⟨g, 5, none⟩ u5).setCell ⟨g, 6, none⟩ u6) (B g #[u0, u1, u2, u3, u4, u5, u6] t :: R) :=
  (((((((h.put (cs' := #[u0, v1, v2, v3, v4, v5, v6]) 0 u0 rfl).put (cs' := #[u0, u1, v2, v3, v4, v5, v6]) 1 u1 rfl).put (cs' := #[u0, u1, u2, v3, v4, v5, v6]) 2 u2 rfl).put (cs' := #[u0, u1, u2, u3, v4, v5, v6]) 3 u3 rfl).put (cs' := #[u0, u1, u2, u3, u4, v5, v6]) 4 u4 rfl).put (cs' := #[u0, u1, u2, u3, u4, u5, v6]) 5 u5 rfl).put (cs' := #[u0, u1, u2, u3, u4, u5, u6]) 6 u6 rfl)
theorem dec_met {b : List Int} (h : decOk b = true) : (r7 b).2.met = 0 := by
  obtain ⟨hf, he⟩ := dec_fit h
  have h3 := (rd_enc hf).2.2
  rw [he] at h3
  rcases Nat.eq_zero_or_pos (r7 b).2.met with h0 | h0
  · exact h0
  · unfold r8 at h3
    rw [rFix_stopped (by omega)] at h3
    rw [h3]
theorem dec_yes {b : List Int} (hf : fitB (rdF b) = true) (he : encF (rdF b) = b) : decOk b = true := by
  have := (dec_enc ((fit_iff _).1 hf)).1
  rw [he] at this
  exact this
set_option maxRecDepth 20000 in
set_option maxHeartbeats 6400000 in
theorem rdec_calls (b : List Int) (A : Option Addr) (c : Nat) (w : World) (hr : ReadsOf I 0 w A b.length b) (hb : Byt b) (hcap : b.length ≤ c) (hbl : b.length ≤ 140737488355328) :
    Calls Tryd.prog 57 #[.slice A b.length c] w (DecPost w b) := by
  obtain ⟨W1, hW1⟩ : ∃ W1, W1 = w.alloc (.cells frZ 69) := ⟨_, rfl⟩
  obtain ⟨ba, hba⟩ : ∃ ba, ba = w.heap.size := ⟨_, rfl⟩
  have h1 := (St.start w).newB frZ 69
  rw [← hW1, ← hba] at h1
  obtain ⟨W2, hW2⟩ : ∃ W2, W2 = W1.alloc (.cells #[.slice A b.length c, .int .i64 0, .int .i64 0] 34) := ⟨_, rfl⟩
  obtain ⟨g, hg⟩ : ∃ g, g = W1.heap.size := ⟨_, rfl⟩
  have h2 := h1.newB #[.slice A b.length c, .int .i64 0, .int .i64 0] 34
  rw [← hW2, ← hg] at h2
  obtain ⟨W3, hW3⟩ : ∃ W3, W3 = W2.alloc (.cells frZ 69) := ⟨_, rfl⟩
  obtain ⟨bf, hbf⟩ : ∃ bf, bf = W2.heap.size := ⟨_, rfl⟩
  have h3 := h2.newB frZ 69
  rw [← hW3, ← hbf] at h3
  have h4 : St w W3 (eyE g A c b ⟨0, 0⟩ :: (B bf frZ 69 :: [B ba frZ 69])) := h3.re (fun x => by have e : eyE g A c b ⟨0, 0⟩ = B g #[.slice A b.length c, .int .i64 0, .int .i64 0] 34 := rfl; rw [e]; simp only [cnt_cons, cnt_nil]; omega)
  have HG : Hid (g = ba + 1) := by show g = _; rw [hg, hW1, hba]; simp
  have HBF : Hid (bf = g + 1) := by show bf = _; rw [hbf, hW2, hg]; simp
  have H0 := Lib.hid h4
  have HR := Lib.hid hr
  have HB := Lib.hid hb
  have HC := Lib.hid hcap
  have HL := Lib.hid hbl
  have HW1 := Lib.hid hW1
  have HW2 := Lib.hid hW2
  have HW3 := Lib.hid hW3
  have HBA := Lib.hid hba
  have R1 := r1_lt hb
  have R2 := r2_lt hb
  have q1 : IntKind.i64.wrap ((r1 b).1 : Int) = ((r1 b).1 : Int) := IntWalk.i64_in _ ⟨by omega, by omega⟩
  have q2 : IntKind.i64.wrap ((r2 b).1 : Int) = ((r2 b).1 : Int) := IntWalk.i64_in _ ⟨by omega, by omega⟩
  clear h1 h2 h3 h4 hr hb hcap hbl hW1 hW2 hW3 hba hg hbf R1 R2
  go_enter Tryd.func57, Tryd.ntmps57
  go_upto_region 3 with fail
  rw [← HW1.out, ← HBA.out, ← HW2.out, ← HG.out, ← HW3.out, ← HBF.out]
  have CE : Hid (Calls Tryd.prog 65 #[.pointer (some ⟨g, 0, none⟩)] W3 fun e w' => e = .returned (.int .u8 ((r1 b).1 : Int)) ∧ EyTo W3 w' w.heap.size g A c b (r1 b).2) := e8_calls W3 w.heap.size g A c b ⟨0, 0⟩ (St.eye H0.out HR.out HC.out) (r0_ok b) H0.out.bl.size HL.out HB.out
  go_wp2_with fail
  refine CE.out.mono ?_; rintro e v0 ⟨rfl, ht⟩
  clear CE
  have k0 := St.eyto H0.out ht
  have x0 := k0.cellOf (g := bf) (cs := frZ) (t := 69) (by simp) 0 rfl
  have f0 := k0.freeOf (g := bf) (cs := frZ) (t := 69) (by simp) 0
  obtain ⟨V0, hV0⟩ : ∃ V0, V0 = v0.setCell ⟨bf, 0, none⟩ (.int .i64 ((r1 b).1 : Int)) := ⟨_, rfl⟩
  have H1 : Hid (St w V0 (eyE g A c b (r1 b).2 :: (B bf #[.int .i64 ((r1 b).1 : Int), .int .i64 0, .int .u64 0, .int .u64 0, .int .u64 0, .int .u64 0, .slice none 0 0] 69 :: [B ba frZ 69]))) := by
    show St _ _ _
    rw [hV0]
    exact ((k0.re (M := B bf frZ 69 :: (eyE g A c b (r1 b).2 :: [B ba frZ 69])) (fun x => by simp only [cnt_cons, cnt_nil]; omega)).put (cs' := #[.int .i64 ((r1 b).1 : Int), .int .i64 0, .int .u64 0, .int .u64 0, .int .u64 0, .int .u64 0, .slice none 0 0]) 0 (.int .i64 ((r1 b).1 : Int)) rfl).re (fun x => by simp only [cnt_cons, cnt_nil]; omega)
  have HV0 := Lib.hid hV0
  clear ht k0 hV0
  go_upto_region 4 with fail
  rw [← HV0.out]
  clear x0 f0 q1
  have CE : Hid (Calls Tryd.prog 65 #[.pointer (some ⟨g, 0, none⟩)] V0 fun e w' => e = .returned (.int .u8 ((r2 b).1 : Int)) ∧ EyTo V0 w' w.heap.size g A c b (r2 b).2) := e8_calls V0 w.heap.size g A c b (r1 b).2 (St.eye H1.out HR.out HC.out) (r1_ok b) H1.out.bl.size HL.out HB.out
  go_wp2_with fail
  refine CE.out.mono ?_; rintro e v1 ⟨rfl, ht⟩
  clear CE
  have k1 := St.eyto H1.out ht
  have x1 := k1.cellOf (g := bf) (cs := #[.int .i64 ((r1 b).1 : Int), .int .i64 0, .int .u64 0, .int .u64 0, .int .u64 0, .int .u64 0, .slice none 0 0]) (t := 69) (by simp) 1 rfl
  have f1 := k1.freeOf (g := bf) (cs := #[.int .i64 ((r1 b).1 : Int), .int .i64 0, .int .u64 0, .int .u64 0, .int .u64 0, .int .u64 0, .slice none 0 0]) (t := 69) (by simp) 1
  obtain ⟨V1, hV1⟩ : ∃ V1, V1 = v1.setCell ⟨bf, 1, none⟩ (.int .i64 ((r2 b).1 : Int)) := ⟨_, rfl⟩
  have H2 : Hid (St w V1 (eyE g A c b (r2 b).2 :: (B bf #[.int .i64 ((r1 b).1 : Int), .int .i64 ((r2 b).1 : Int), .int .u64 0, .int .u64 0, .int .u64 0, .int .u64 0, .slice none 0 0] 69 :: [B ba frZ 69]))) := by
    show St _ _ _
    rw [hV1]
    exact ((k1.re (M := B bf #[.int .i64 ((r1 b).1 : Int), .int .i64 0, .int .u64 0, .int .u64 0, .int .u64 0, .int .u64 0, .slice none 0 0] 69 :: (eyE g A c b (r2 b).2 :: [B ba frZ 69])) (fun x => by simp only [cnt_cons, cnt_nil]; omega)).put (cs' := #[.int .i64 ((r1 b).1 : Int), .int .i64 ((r2 b).1 : Int), .int .u64 0, .int .u64 0, .int .u64 0, .int .u64 0, .slice none 0 0]) 1 (.int .i64 ((r2 b).1 : Int)) rfl).re (fun x => by simp only [cnt_cons, cnt_nil]; omega)
  have HV1 := Lib.hid hV1
  clear ht k1 hV1
  go_upto_region 5 with fail
  rw [← HV1.out]
  clear x1 f1 q2
  have CE : Hid (Calls Tryd.prog 70 #[.pointer (some ⟨g, 0, none⟩), .int .u64 1099511627776] V1 fun e w' => e = .returned (.int .u64 ((r3 b).1 : Int)) ∧ EyTo V1 w' w.heap.size g A c b (r3 b).2) := evar_calls V1 w.heap.size g A c b (r2 b).2 1099511627776 (St.eye H2.out HR.out HC.out) (r2_ok b) H2.out.bl.size HL.out HB.out
  go_wp2_with fail
  refine CE.out.mono ?_; rintro e v2 ⟨rfl, ht⟩
  clear CE
  have k2 := St.eyto H2.out ht
  have x2 := k2.cellOf (g := bf) (cs := #[.int .i64 ((r1 b).1 : Int), .int .i64 ((r2 b).1 : Int), .int .u64 0, .int .u64 0, .int .u64 0, .int .u64 0, .slice none 0 0]) (t := 69) (by simp) 2 rfl
  have f2 := k2.freeOf (g := bf) (cs := #[.int .i64 ((r1 b).1 : Int), .int .i64 ((r2 b).1 : Int), .int .u64 0, .int .u64 0, .int .u64 0, .int .u64 0, .slice none 0 0]) (t := 69) (by simp) 2
  obtain ⟨V2, hV2⟩ : ∃ V2, V2 = v2.setCell ⟨bf, 2, none⟩ (.int .u64 ((r3 b).1 : Int)) := ⟨_, rfl⟩
  have H3 : Hid (St w V2 (eyE g A c b (r3 b).2 :: (B bf #[.int .i64 ((r1 b).1 : Int), .int .i64 ((r2 b).1 : Int), .int .u64 ((r3 b).1 : Int), .int .u64 0, .int .u64 0, .int .u64 0, .slice none 0 0] 69 :: [B ba frZ 69]))) := by
    show St _ _ _
    rw [hV2]
    exact ((k2.re (M := B bf #[.int .i64 ((r1 b).1 : Int), .int .i64 ((r2 b).1 : Int), .int .u64 0, .int .u64 0, .int .u64 0, .int .u64 0, .slice none 0 0] 69 :: (eyE g A c b (r3 b).2 :: [B ba frZ 69])) (fun x => by simp only [cnt_cons, cnt_nil]; omega)).put (cs' := #[.int .i64 ((r1 b).1 : Int), .int .i64 ((r2 b).1 : Int), .int .u64 ((r3 b).1 : Int), .int .u64 0, .int .u64 0, .int .u64 0, .slice none 0 0]) 2 (.int .u64 ((r3 b).1 : Int)) rfl).re (fun x => by simp only [cnt_cons, cnt_nil]; omega)
  have HV2 := Lib.hid hV2
  clear ht k2 hV2
  go_upto_region 6 with fail
  rw [← HV2.out]
  clear x2 f2
  have CE : Hid (Calls Tryd.prog 70 #[.pointer (some ⟨g, 0, none⟩), .int .u64 1099511627776] V2 fun e w' => e = .returned (.int .u64 ((r4 b).1 : Int)) ∧ EyTo V2 w' w.heap.size g A c b (r4 b).2) := evar_calls V2 w.heap.size g A c b (r3 b).2 1099511627776 (St.eye H3.out HR.out HC.out) (r3_ok b).1 H3.out.bl.size HL.out HB.out
  go_wp2_with fail
  refine CE.out.mono ?_; rintro e v3 ⟨rfl, ht⟩
  clear CE
  have k3 := St.eyto H3.out ht
  have x3 := k3.cellOf (g := bf) (cs := #[.int .i64 ((r1 b).1 : Int), .int .i64 ((r2 b).1 : Int), .int .u64 ((r3 b).1 : Int), .int .u64 0, .int .u64 0, .int .u64 0, .slice none 0 0]) (t := 69) (by simp) 3 rfl
  have f3 := k3.freeOf (g := bf) (cs := #[.int .i64 ((r1 b).1 : Int), .int .i64 ((r2 b).1 : Int), .int .u64 ((r3 b).1 : Int), .int .u64 0, .int .u64 0, .int .u64 0, .slice none 0 0]) (t := 69) (by simp) 3
  obtain ⟨V3, hV3⟩ : ∃ V3, V3 = v3.setCell ⟨bf, 3, none⟩ (.int .u64 ((r4 b).1 : Int)) := ⟨_, rfl⟩
  have H4 : Hid (St w V3 (eyE g A c b (r4 b).2 :: (B bf #[.int .i64 ((r1 b).1 : Int), .int .i64 ((r2 b).1 : Int), .int .u64 ((r3 b).1 : Int), .int .u64 ((r4 b).1 : Int), .int .u64 0, .int .u64 0, .slice none 0 0] 69 :: [B ba frZ 69]))) := by
    show St _ _ _
    rw [hV3]
    exact ((k3.re (M := B bf #[.int .i64 ((r1 b).1 : Int), .int .i64 ((r2 b).1 : Int), .int .u64 ((r3 b).1 : Int), .int .u64 0, .int .u64 0, .int .u64 0, .slice none 0 0] 69 :: (eyE g A c b (r4 b).2 :: [B ba frZ 69])) (fun x => by simp only [cnt_cons, cnt_nil]; omega)).put (cs' := #[.int .i64 ((r1 b).1 : Int), .int .i64 ((r2 b).1 : Int), .int .u64 ((r3 b).1 : Int), .int .u64 ((r4 b).1 : Int), .int .u64 0, .int .u64 0, .slice none 0 0]) 3 (.int .u64 ((r4 b).1 : Int)) rfl).re (fun x => by simp only [cnt_cons, cnt_nil]; omega)
  have HV3 := Lib.hid hV3
  clear ht k3 hV3
  go_upto_region 7 with fail
  rw [← HV3.out]
  clear x3 f3
  have CE : Hid (Calls Tryd.prog 70 #[.pointer (some ⟨g, 0, none⟩), .int .u64 1099511627776] V3 fun e w' => e = .returned (.int .u64 ((r5 b).1 : Int)) ∧ EyTo V3 w' w.heap.size g A c b (r5 b).2) := evar_calls V3 w.heap.size g A c b (r4 b).2 1099511627776 (St.eye H4.out HR.out HC.out) (r4_ok b).1 H4.out.bl.size HL.out HB.out
  go_wp2_with fail
  refine CE.out.mono ?_; rintro e v4 ⟨rfl, ht⟩
  clear CE
  have k4 := St.eyto H4.out ht
  have x4 := k4.cellOf (g := bf) (cs := #[.int .i64 ((r1 b).1 : Int), .int .i64 ((r2 b).1 : Int), .int .u64 ((r3 b).1 : Int), .int .u64 ((r4 b).1 : Int), .int .u64 0, .int .u64 0, .slice none 0 0]) (t := 69) (by simp) 4 rfl
  have f4 := k4.freeOf (g := bf) (cs := #[.int .i64 ((r1 b).1 : Int), .int .i64 ((r2 b).1 : Int), .int .u64 ((r3 b).1 : Int), .int .u64 ((r4 b).1 : Int), .int .u64 0, .int .u64 0, .slice none 0 0]) (t := 69) (by simp) 4
  obtain ⟨V4, hV4⟩ : ∃ V4, V4 = v4.setCell ⟨bf, 4, none⟩ (.int .u64 ((r5 b).1 : Int)) := ⟨_, rfl⟩
  have H5 : Hid (St w V4 (eyE g A c b (r5 b).2 :: (B bf #[.int .i64 ((r1 b).1 : Int), .int .i64 ((r2 b).1 : Int), .int .u64 ((r3 b).1 : Int), .int .u64 ((r4 b).1 : Int), .int .u64 ((r5 b).1 : Int), .int .u64 0, .slice none 0 0] 69 :: [B ba frZ 69]))) := by
    show St _ _ _
    rw [hV4]
    exact ((k4.re (M := B bf #[.int .i64 ((r1 b).1 : Int), .int .i64 ((r2 b).1 : Int), .int .u64 ((r3 b).1 : Int), .int .u64 ((r4 b).1 : Int), .int .u64 0, .int .u64 0, .slice none 0 0] 69 :: (eyE g A c b (r5 b).2 :: [B ba frZ 69])) (fun x => by simp only [cnt_cons, cnt_nil]; omega)).put (cs' := #[.int .i64 ((r1 b).1 : Int), .int .i64 ((r2 b).1 : Int), .int .u64 ((r3 b).1 : Int), .int .u64 ((r4 b).1 : Int), .int .u64 ((r5 b).1 : Int), .int .u64 0, .slice none 0 0]) 4 (.int .u64 ((r5 b).1 : Int)) rfl).re (fun x => by simp only [cnt_cons, cnt_nil]; omega)
  have HV4 := Lib.hid hV4
  clear ht k4 hV4
  go_upto_region 8 with fail
  rw [← HV4.out]
  clear x4 f4
  have CE : Hid (Calls Tryd.prog 70 #[.pointer (some ⟨g, 0, none⟩), .int .u64 1099511627776] V4 fun e w' => e = .returned (.int .u64 ((r6 b).1 : Int)) ∧ EyTo V4 w' w.heap.size g A c b (r6 b).2) := evar_calls V4 w.heap.size g A c b (r5 b).2 1099511627776 (St.eye H5.out HR.out HC.out) (r5_ok b).1 H5.out.bl.size HL.out HB.out
  go_wp2_with fail
  refine CE.out.mono ?_; rintro e v5 ⟨rfl, ht⟩
  clear CE
  have k5 := St.eyto H5.out ht
  have x5 := k5.cellOf (g := bf) (cs := #[.int .i64 ((r1 b).1 : Int), .int .i64 ((r2 b).1 : Int), .int .u64 ((r3 b).1 : Int), .int .u64 ((r4 b).1 : Int), .int .u64 ((r5 b).1 : Int), .int .u64 0, .slice none 0 0]) (t := 69) (by simp) 5 rfl
  have f5 := k5.freeOf (g := bf) (cs := #[.int .i64 ((r1 b).1 : Int), .int .i64 ((r2 b).1 : Int), .int .u64 ((r3 b).1 : Int), .int .u64 ((r4 b).1 : Int), .int .u64 ((r5 b).1 : Int), .int .u64 0, .slice none 0 0]) (t := 69) (by simp) 5
  obtain ⟨V5, hV5⟩ : ∃ V5, V5 = v5.setCell ⟨bf, 5, none⟩ (.int .u64 ((r6 b).1 : Int)) := ⟨_, rfl⟩
  have H6 : Hid (St w V5 (eyE g A c b (r6 b).2 :: (B bf #[.int .i64 ((r1 b).1 : Int), .int .i64 ((r2 b).1 : Int), .int .u64 ((r3 b).1 : Int), .int .u64 ((r4 b).1 : Int), .int .u64 ((r5 b).1 : Int), .int .u64 ((r6 b).1 : Int), .slice none 0 0] 69 :: [B ba frZ 69]))) := by
    show St _ _ _
    rw [hV5]
    exact ((k5.re (M := B bf #[.int .i64 ((r1 b).1 : Int), .int .i64 ((r2 b).1 : Int), .int .u64 ((r3 b).1 : Int), .int .u64 ((r4 b).1 : Int), .int .u64 ((r5 b).1 : Int), .int .u64 0, .slice none 0 0] 69 :: (eyE g A c b (r6 b).2 :: [B ba frZ 69])) (fun x => by simp only [cnt_cons, cnt_nil]; omega)).put (cs' := #[.int .i64 ((r1 b).1 : Int), .int .i64 ((r2 b).1 : Int), .int .u64 ((r3 b).1 : Int), .int .u64 ((r4 b).1 : Int), .int .u64 ((r5 b).1 : Int), .int .u64 ((r6 b).1 : Int), .slice none 0 0]) 5 (.int .u64 ((r6 b).1 : Int)) rfl).re (fun x => by simp only [cnt_cons, cnt_nil]; omega)
  have HV5 := Lib.hid hV5
  clear ht k5 hV5
  go_upto_region 9 with fail
  rw [← HV5.out]
  clear x5 f5
  have CT : Hid (Calls Tryd.prog 72 #[.pointer (some ⟨g, 0, none⟩), .int .i64 2048] V5 (ETaken V5 w.heap.size g A c b (r7 b).1 (r7 b).2)) := etext_calls V5 w.heap.size g A c b (r6 b).2 2048 (St.eye H6.out HR.out HC.out) (r6_ok b).1 H6.out.bl.size HL.out HB.out (by omega)
  go_wp2_with fail
  refine CT.out.mono ?_; rintro e v6 ⟨u, rfl, ho, ht⟩
  clear CT
  obtain ⟨k6, hu⟩ := St.etaken H6.out ht ho
  obtain ⟨A7, c7, rfl⟩ := byV_form hu
  have x6 := k6.cellOf (g := bf) (cs := #[.int .i64 ((r1 b).1 : Int), .int .i64 ((r2 b).1 : Int), .int .u64 ((r3 b).1 : Int), .int .u64 ((r4 b).1 : Int), .int .u64 ((r5 b).1 : Int), .int .u64 ((r6 b).1 : Int), .slice none 0 0]) (t := 69) (by simp) 6 rfl
  have f6 := k6.freeOf (g := bf) (cs := #[.int .i64 ((r1 b).1 : Int), .int .i64 ((r2 b).1 : Int), .int .u64 ((r3 b).1 : Int), .int .u64 ((r4 b).1 : Int), .int .u64 ((r5 b).1 : Int), .int .u64 ((r6 b).1 : Int), .slice none 0 0]) (t := 69) (by simp) 6
  obtain ⟨V6, hV6⟩ : ∃ V6, V6 = v6.setCell ⟨bf, 6, none⟩ (.slice A7 (r7 b).1.length c7) := ⟨_, rfl⟩
  have H7 : Hid (St w V6 (B bf (frC (rdF b) A7 c7) 69 :: (B ba frZ 69 :: (eyE g A c b (r7 b).2 :: byR (.slice A7 (r7 b).1.length c7) (r7 b).1)))) := by
    show St _ _ _
    rw [hV6]
    exact ((k6.re (M := B bf #[.int .i64 ((r1 b).1 : Int), .int .i64 ((r2 b).1 : Int), .int .u64 ((r3 b).1 : Int), .int .u64 ((r4 b).1 : Int), .int .u64 ((r5 b).1 : Int), .int .u64 ((r6 b).1 : Int), .slice none 0 0] 69 :: (B ba frZ 69 :: (eyE g A c b (r7 b).2 :: byR (.slice A7 (r7 b).1.length c7) (r7 b).1))) (fun x => by simp only [cnt_append, cnt_cons, cnt_nil]; omega)).put (cs' := frC (rdF b) A7 c7) 6 (.slice A7 (r7 b).1.length c7) (by unfold rdF; rfl))
  have HV6 := Lib.hid hV6
  have HU := Lib.hid hu
  clear ho ht k6 hu hV6
  go_upto_region 10 with fail
  rw [← HV6.out]
  clear x6 f6
  obtain ⟨F, hF⟩ : ∃ F, F = rdF b := ⟨_, rfl⟩
  have hbd := rdF_body b
  have hby := rdF_byt HB.out
  rw [← hF] at H7 hbd hby
  rw [← hbd] at H7 HU
  have HF := Lib.hid hF
  have HBY := Lib.hid hby
  clear hF hbd hby H0 H1 H2 H3 H4 H5 H6 HV0 HV1 HV2 HV3 HV4 HV5 HV6
  have xm : V6.cell? ⟨g, 2, none⟩ = some (.int .i64 (errN (r7 b).2.met)) := H7.out.cellOf (g := g) (cs := #[.slice A b.length c, .int .i64 ((r7 b).2.at_ : Int), .int .i64 (errN (r7 b).2.met)]) (t := 34) (by simp [eyE]) 2 rfl
  by_cases hm : (r7 b).2.met = 0
  · rw [hm] at xm
    have xm' : V6.cell? ⟨g, 2, none⟩ = some (.int .i64 0) := xm
    clear xm hm
    have y0 := H7.out.cellOf (g := bf) (cs := frC F A7 c7) (t := 69) (by simp) 0 rfl
    have y1 := H7.out.cellOf (g := bf) (cs := frC F A7 c7) (t := 69) (by simp) 1 rfl
    have y2 := H7.out.cellOf (g := bf) (cs := frC F A7 c7) (t := 69) (by simp) 2 rfl
    have y3 := H7.out.cellOf (g := bf) (cs := frC F A7 c7) (t := 69) (by simp) 3 rfl
    have y4 := H7.out.cellOf (g := bf) (cs := frC F A7 c7) (t := 69) (by simp) 4 rfl
    have y5 := H7.out.cellOf (g := bf) (cs := frC F A7 c7) (t := 69) (by simp) 5 rfl
    have y6 := H7.out.cellOf (g := bf) (cs := frC F A7 c7) (t := 69) (by simp) 6 rfl
    have CF := Lib.hid (rfit_calls F A7 c7 V6)
    go_wp2_with fail
    refine CF.out.mono ?_; rintro e v7 ⟨rfl, hb7⟩
    have H8 := Lib.hid ((H7.out.below hb7).re (M := (B ba frZ 69 :: (B bf (frC F A7 c7) 69 :: (eyE g A c b (r7 b).2 :: byR (.slice A7 F.body.length c7) F.body)))) (fun x => by simp only [cnt_append, cnt_cons, cnt_nil]; omega))
    clear hb7 CF y0 y1 y2 y3 y4 y5 y6 xm'
    cases hf : fitB F with
    | false =>
      have hd : decOk b = false := by
        cases e : decOk b with
        | false => rfl
        | true => have := (fit_iff _).2 (dec_fit e).1; rw [← HF.out, hf] at this; cases this
      have HD := Lib.hid hd
      have z0 := H8.out.cellOf (g := ba) (cs := frZ) (t := 69) (by simp) 0 rfl
      have fz0 := H8.out.freeOf (g := ba) (cs := frZ) (t := 69) (by simp) 0
      have z1 := H8.out.cellOf (g := ba) (cs := frZ) (t := 69) (by simp) 1 rfl
      have fz1 := H8.out.freeOf (g := ba) (cs := frZ) (t := 69) (by simp) 1
      have z2 := H8.out.cellOf (g := ba) (cs := frZ) (t := 69) (by simp) 2 rfl
      have fz2 := H8.out.freeOf (g := ba) (cs := frZ) (t := 69) (by simp) 2
      have z3 := H8.out.cellOf (g := ba) (cs := frZ) (t := 69) (by simp) 3 rfl
      have fz3 := H8.out.freeOf (g := ba) (cs := frZ) (t := 69) (by simp) 3
      have z4 := H8.out.cellOf (g := ba) (cs := frZ) (t := 69) (by simp) 4 rfl
      have fz4 := H8.out.freeOf (g := ba) (cs := frZ) (t := 69) (by simp) 4
      have z5 := H8.out.cellOf (g := ba) (cs := frZ) (t := 69) (by simp) 5 rfl
      have fz5 := H8.out.freeOf (g := ba) (cs := frZ) (t := 69) (by simp) 5
      have z6 := H8.out.cellOf (g := ba) (cs := frZ) (t := 69) (by simp) 6 rfl
      have fz6 := H8.out.freeOf (g := ba) (cs := frZ) (t := 69) (by simp) 6
      clear hf hd
      go_wp2_with fail
      obtain ⟨Wz, hWz⟩ : ∃ Wz, Wz = (((((((v7.setCell ⟨ba, 0, none⟩ (.int .i64 0)).setCell ⟨ba, 1, none⟩ (.int .i64 0)).setCell ⟨ba, 2, none⟩ (.int .u64 0)).setCell ⟨ba, 3, none⟩ (.int .u64 0)).setCell ⟨ba, 4, none⟩ (.int .u64 0)).setCell ⟨ba, 5, none⟩ (.int .u64 0)).setCell ⟨ba, 6, none⟩ (.slice none 0 0)) := ⟨_, rfl⟩
      have hz := St.put7 (u0 := .int .i64 0) (u1 := .int .i64 0) (u2 := .int .u64 0) (u3 := .int .u64 0) (u4 := .int .u64 0) (u5 := .int .u64 0) (u6 := .slice none 0 0) H8.out
      rw [← hWz] at hz ⊢
      have q0 : Wz.cell? ⟨ba, 0, none⟩ = some (.int .i64 0) := blk_cell hz.hd 0
      have q1 : Wz.cell? ⟨ba, 1, none⟩ = some (.int .i64 0) := blk_cell hz.hd 1
      have q2 : Wz.cell? ⟨ba, 2, none⟩ = some (.int .u64 0) := blk_cell hz.hd 2
      have q3 : Wz.cell? ⟨ba, 3, none⟩ = some (.int .u64 0) := blk_cell hz.hd 3
      have q4 : Wz.cell? ⟨ba, 4, none⟩ = some (.int .u64 0) := blk_cell hz.hd 4
      have q5 : Wz.cell? ⟨ba, 5, none⟩ = some (.int .u64 0) := blk_cell hz.hd 5
      have q6 : Wz.cell? ⟨ba, 6, none⟩ = some (.slice none 0 0) := blk_cell hz.hd 6
      have HZZ := Lib.hid hz
      clear hWz hz
      refine bodyPost_ret (results_cell2 rfl _ _ _ ⟨ba, 0, none⟩ (.agg frZ) (.bool false) rfl (by go_simp) rfl) rfl ?_
      exact .inr ⟨HD.out, rfl, HZZ.out.bl⟩
    | true =>
      have HFT := Lib.hid hf
      have y0 := H8.out.cellOf (g := bf) (cs := frC F A7 c7) (t := 69) (by simp) 0 rfl
      have y1 := H8.out.cellOf (g := bf) (cs := frC F A7 c7) (t := 69) (by simp) 1 rfl
      have y2 := H8.out.cellOf (g := bf) (cs := frC F A7 c7) (t := 69) (by simp) 2 rfl
      have y3 := H8.out.cellOf (g := bf) (cs := frC F A7 c7) (t := 69) (by simp) 3 rfl
      have y4 := H8.out.cellOf (g := bf) (cs := frC F A7 c7) (t := 69) (by simp) 4 rfl
      have y5 := H8.out.cellOf (g := bf) (cs := frC F A7 c7) (t := 69) (by simp) 5 rfl
      have y6 := H8.out.cellOf (g := bf) (cs := frC F A7 c7) (t := 69) (by simp) 6 rfl
      have CE := Lib.hid (renc_calls F A7 c7 v7 (by_reads H8.out (fun x => by simp only [cnt_append, cnt_cons, cnt_nil]; omega) HU.out) HBY.out)
      clear hf
      go_wp2_with fail
      refine CE.out.mono ?_; rintro e v8 ⟨v, rfl, hv, hs⟩
      have h9 := St.lift H8.out hs
      obtain ⟨A9, c9, rfl⟩ := byV_form hv
      have CQ := Lib.hid (eq_calls (encF F) b A9 A c9 c v8 (by_reads h9 (fun x => by rw [cnt_append]; exact Nat.le_add_right _ _) hv) (h9.reads HR.out) HL.out)
      have H9 := Lib.hid (h9.re (M := (B ba frZ 69 :: (B bf (frC F A7 c7) 69 :: (eyE g A c b (r7 b).2 :: byR (.slice A7 F.body.length c7) F.body)))) (fun x => by simp only [cnt_append, cnt_cons, cnt_nil]; omega))
      clear CE hv hs h9 y0 y1 y2 y3 y4 y5 y6
      go_wp2_with fail
      refine CQ.out.mono ?_; rintro e v10 ⟨ok, rfl, hok, hb10⟩
      have H10 := Lib.hid (H9.out.below hb10)
      have HOK := Lib.hid hok
      clear CQ hok hb10
      have z0 := H10.out.cellOf (g := ba) (cs := frZ) (t := 69) (by simp) 0 rfl
      have fz0 := H10.out.freeOf (g := ba) (cs := frZ) (t := 69) (by simp) 0
      have z1 := H10.out.cellOf (g := ba) (cs := frZ) (t := 69) (by simp) 1 rfl
      have fz1 := H10.out.freeOf (g := ba) (cs := frZ) (t := 69) (by simp) 1
      have z2 := H10.out.cellOf (g := ba) (cs := frZ) (t := 69) (by simp) 2 rfl
      have fz2 := H10.out.freeOf (g := ba) (cs := frZ) (t := 69) (by simp) 2
      have z3 := H10.out.cellOf (g := ba) (cs := frZ) (t := 69) (by simp) 3 rfl
      have fz3 := H10.out.freeOf (g := ba) (cs := frZ) (t := 69) (by simp) 3
      have z4 := H10.out.cellOf (g := ba) (cs := frZ) (t := 69) (by simp) 4 rfl
      have fz4 := H10.out.freeOf (g := ba) (cs := frZ) (t := 69) (by simp) 4
      have z5 := H10.out.cellOf (g := ba) (cs := frZ) (t := 69) (by simp) 5 rfl
      have fz5 := H10.out.freeOf (g := ba) (cs := frZ) (t := 69) (by simp) 5
      have z6 := H10.out.cellOf (g := ba) (cs := frZ) (t := 69) (by simp) 6 rfl
      have fz6 := H10.out.freeOf (g := ba) (cs := frZ) (t := 69) (by simp) 6
      cases ok with
      | false =>
        have hd : decOk b = false := by
          cases e : decOk b with
          | false => rfl
          | true => have := HOK.out.2 (by rw [HF.out]; exact (dec_fit e).2); cases this
        have HD := Lib.hid hd
        clear hd
        go_wp2_with fail
        obtain ⟨Wz, hWz⟩ : ∃ Wz, Wz = (((((((v10.setCell ⟨ba, 0, none⟩ (.int .i64 0)).setCell ⟨ba, 1, none⟩ (.int .i64 0)).setCell ⟨ba, 2, none⟩ (.int .u64 0)).setCell ⟨ba, 3, none⟩ (.int .u64 0)).setCell ⟨ba, 4, none⟩ (.int .u64 0)).setCell ⟨ba, 5, none⟩ (.int .u64 0)).setCell ⟨ba, 6, none⟩ (.slice none 0 0)) := ⟨_, rfl⟩
        have hz := St.put7 (u0 := .int .i64 0) (u1 := .int .i64 0) (u2 := .int .u64 0) (u3 := .int .u64 0) (u4 := .int .u64 0) (u5 := .int .u64 0) (u6 := .slice none 0 0) H10.out
        rw [← hWz] at hz ⊢
        have q0 : Wz.cell? ⟨ba, 0, none⟩ = some (.int .i64 0) := blk_cell hz.hd 0
        have q1 : Wz.cell? ⟨ba, 1, none⟩ = some (.int .i64 0) := blk_cell hz.hd 1
        have q2 : Wz.cell? ⟨ba, 2, none⟩ = some (.int .u64 0) := blk_cell hz.hd 2
        have q3 : Wz.cell? ⟨ba, 3, none⟩ = some (.int .u64 0) := blk_cell hz.hd 3
        have q4 : Wz.cell? ⟨ba, 4, none⟩ = some (.int .u64 0) := blk_cell hz.hd 4
        have q5 : Wz.cell? ⟨ba, 5, none⟩ = some (.int .u64 0) := blk_cell hz.hd 5
        have q6 : Wz.cell? ⟨ba, 6, none⟩ = some (.slice none 0 0) := blk_cell hz.hd 6
        have HZZ := Lib.hid hz
        clear hWz hz
        refine bodyPost_ret (results_cell2 rfl _ _ _ ⟨ba, 0, none⟩ (.agg frZ) (.bool false) rfl (by go_simp) rfl) rfl ?_
        exact .inr ⟨HD.out, rfl, HZZ.out.bl⟩
      | true =>
        have hd : decOk b = true := dec_yes (by rw [← HF.out]; exact HFT.out) (by rw [← HF.out]; exact HOK.out.1 rfl)
        have HD := Lib.hid hd
        clear hd
        have y0 := H10.out.cellOf (g := bf) (cs := frC F A7 c7) (t := 69) (by simp) 0 rfl
        have y1 := H10.out.cellOf (g := bf) (cs := frC F A7 c7) (t := 69) (by simp) 1 rfl
        have y2 := H10.out.cellOf (g := bf) (cs := frC F A7 c7) (t := 69) (by simp) 2 rfl
        have y3 := H10.out.cellOf (g := bf) (cs := frC F A7 c7) (t := 69) (by simp) 3 rfl
        have y4 := H10.out.cellOf (g := bf) (cs := frC F A7 c7) (t := 69) (by simp) 4 rfl
        have y5 := H10.out.cellOf (g := bf) (cs := frC F A7 c7) (t := 69) (by simp) 5 rfl
        have y6 := H10.out.cellOf (g := bf) (cs := frC F A7 c7) (t := 69) (by simp) 6 rfl
        go_wp2_with fail
        obtain ⟨Wz, hWz⟩ : ∃ Wz, Wz = (((((((v10.setCell ⟨ba, 0, none⟩ (.int .i64 F.src)).setCell ⟨ba, 1, none⟩ (.int .i64 F.dst)).setCell ⟨ba, 2, none⟩ (.int .u64 (F.mine : Int))).setCell ⟨ba, 3, none⟩ (.int .u64 (F.yours : Int))).setCell ⟨ba, 4, none⟩ (.int .u64 (F.seq : Int))).setCell ⟨ba, 5, none⟩ (.int .u64 (F.ack : Int))).setCell ⟨ba, 6, none⟩ (.slice A7 F.body.length c7)) := ⟨_, rfl⟩
        have hz := St.put7 (u0 := .int .i64 F.src) (u1 := .int .i64 F.dst) (u2 := .int .u64 (F.mine : Int)) (u3 := .int .u64 (F.yours : Int)) (u4 := .int .u64 (F.seq : Int)) (u5 := .int .u64 (F.ack : Int)) (u6 := .slice A7 F.body.length c7) H10.out
        rw [← hWz] at hz ⊢
        have q0 : Wz.cell? ⟨ba, 0, none⟩ = some (.int .i64 F.src) := blk_cell hz.hd 0
        have q1 : Wz.cell? ⟨ba, 1, none⟩ = some (.int .i64 F.dst) := blk_cell hz.hd 1
        have q2 : Wz.cell? ⟨ba, 2, none⟩ = some (.int .u64 (F.mine : Int)) := blk_cell hz.hd 2
        have q3 : Wz.cell? ⟨ba, 3, none⟩ = some (.int .u64 (F.yours : Int)) := blk_cell hz.hd 3
        have q4 : Wz.cell? ⟨ba, 4, none⟩ = some (.int .u64 (F.seq : Int)) := blk_cell hz.hd 4
        have q5 : Wz.cell? ⟨ba, 5, none⟩ = some (.int .u64 (F.ack : Int)) := blk_cell hz.hd 5
        have q6 : Wz.cell? ⟨ba, 6, none⟩ = some (.slice A7 F.body.length c7) := blk_cell hz.hd 6
        have HZZ := Lib.hid hz
        clear hWz hz
        refine bodyPost_ret (results_cell2 rfl _ _ _ ⟨ba, 0, none⟩ (.agg (frC F A7 c7)) (.bool true) rfl (by go_simp) rfl) rfl ?_
        have hu := HU.out
        have hz := HZZ.out.re (M := byR (.slice A7 F.body.length c7) F.body) (fun x => by simp only [cnt_append, cnt_cons, cnt_nil]; omega)
        rw [HF.out] at hu hz ⊢
        exact .inl ⟨HD.out, A7, c7, rfl, hu, hz⟩
  · have j1 : (errN (r7 b).2.met != 0) = true := by rw [bne_iff_ne]; exact fun e => hm (errN_zero.1 e)
    have hd : decOk b = false := by
      cases e : decOk b with
      | false => rfl
      | true => exact absurd (dec_met e) hm
    have HD := Lib.hid hd
    have H8 := Lib.hid (H7.out.re (M := (B ba frZ 69 :: (B bf (frC F A7 c7) 69 :: (eyE g A c b (r7 b).2 :: byR (.slice A7 F.body.length c7) F.body)))) (fun x => by simp only [cnt_append, cnt_cons, cnt_nil]; omega))
    have z0 := H8.out.cellOf (g := ba) (cs := frZ) (t := 69) (by simp) 0 rfl
    have fz0 := H8.out.freeOf (g := ba) (cs := frZ) (t := 69) (by simp) 0
    have z1 := H8.out.cellOf (g := ba) (cs := frZ) (t := 69) (by simp) 1 rfl
    have fz1 := H8.out.freeOf (g := ba) (cs := frZ) (t := 69) (by simp) 1
    have z2 := H8.out.cellOf (g := ba) (cs := frZ) (t := 69) (by simp) 2 rfl
    have fz2 := H8.out.freeOf (g := ba) (cs := frZ) (t := 69) (by simp) 2
    have z3 := H8.out.cellOf (g := ba) (cs := frZ) (t := 69) (by simp) 3 rfl
    have fz3 := H8.out.freeOf (g := ba) (cs := frZ) (t := 69) (by simp) 3
    have z4 := H8.out.cellOf (g := ba) (cs := frZ) (t := 69) (by simp) 4 rfl
    have fz4 := H8.out.freeOf (g := ba) (cs := frZ) (t := 69) (by simp) 4
    have z5 := H8.out.cellOf (g := ba) (cs := frZ) (t := 69) (by simp) 5 rfl
    have fz5 := H8.out.freeOf (g := ba) (cs := frZ) (t := 69) (by simp) 5
    have z6 := H8.out.cellOf (g := ba) (cs := frZ) (t := 69) (by simp) 6 rfl
    have fz6 := H8.out.freeOf (g := ba) (cs := frZ) (t := 69) (by simp) 6
    clear hm hd
    go_wp2_with fail
    obtain ⟨Wz, hWz⟩ : ∃ Wz, Wz = (((((((V6.setCell ⟨ba, 0, none⟩ (.int .i64 0)).setCell ⟨ba, 1, none⟩ (.int .i64 0)).setCell ⟨ba, 2, none⟩ (.int .u64 0)).setCell ⟨ba, 3, none⟩ (.int .u64 0)).setCell ⟨ba, 4, none⟩ (.int .u64 0)).setCell ⟨ba, 5, none⟩ (.int .u64 0)).setCell ⟨ba, 6, none⟩ (.slice none 0 0)) := ⟨_, rfl⟩
    have hz := St.put7 (u0 := .int .i64 0) (u1 := .int .i64 0) (u2 := .int .u64 0) (u3 := .int .u64 0) (u4 := .int .u64 0) (u5 := .int .u64 0) (u6 := .slice none 0 0) H8.out
    rw [← hWz] at hz ⊢
    have q0 : Wz.cell? ⟨ba, 0, none⟩ = some (.int .i64 0) := blk_cell hz.hd 0
    have q1 : Wz.cell? ⟨ba, 1, none⟩ = some (.int .i64 0) := blk_cell hz.hd 1
    have q2 : Wz.cell? ⟨ba, 2, none⟩ = some (.int .u64 0) := blk_cell hz.hd 2
    have q3 : Wz.cell? ⟨ba, 3, none⟩ = some (.int .u64 0) := blk_cell hz.hd 3
    have q4 : Wz.cell? ⟨ba, 4, none⟩ = some (.int .u64 0) := blk_cell hz.hd 4
    have q5 : Wz.cell? ⟨ba, 5, none⟩ = some (.int .u64 0) := blk_cell hz.hd 5
    have q6 : Wz.cell? ⟨ba, 6, none⟩ = some (.slice none 0 0) := blk_cell hz.hd 6
    have HZZ := Lib.hid hz
    clear hWz hz
    refine bodyPost_ret (results_cell2 rfl _ _ _ ⟨ba, 0, none⟩ (.agg frZ) (.bool false) rfl (by go_simp) rfl) rfl ?_
    exact .inr ⟨HD.out, rfl, HZZ.out.bl⟩
end Go.Proofs.YtoeiaimoppmjdaaDoor.Lk
/- LinkMany: what its links come to: plain. -/
namespace Go.Proofs.YtoeiaimoppmjdaaDoor.Lk
open Go.RowKit Go.Proofs.YtoeiaimoppmjdaaDoorW.PrintWords Go.Proofs.YtoeiaimoppmjdaaDoor.Mem Go.Proofs.YtoeiaimoppmjdaaDoor.Wr Go.Proofs.YtoeiaimoppmjdaaDoor.Bytes
set_option linter.unusedVariables false
set_option linter.unusedSimpArgs false
/-- The frame that makes link i know its other. -/
def mF (i : Nat) : Frm := ⟨1, 0, 7 + i, i + 1, 0, 0, []⟩
/-- What link i is handed. -/
def mB (i : Nat) : List Int := [(i : Int), 120]
def m0 (i gp : Nat) : LS := ls0 0 1 (i + 1) 3 gp 4
/-- Behind the frame. -/
def m1 (i gp : Nat) (iv : Value) : LS := ⟨0, 1, i + 1, 7 + i, 3, iv, [], 0, 0, 0, gp, 4, 0, 1, false, false, false⟩
def m2 (i gp : Nat) (iv v : Value) : LS := ⟨0, 1, i + 1, 7 + i, 3, iv, [(v, mB i)], 0, 0, 0, gp, 4, 0, 1, false, false, false⟩
/-- What link i says. -/
def mG (i : Nat) : Frm := ⟨0, 1, i + 1, 7 + i, 1, 0, mB i⟩
theorem mF_fit {i : Nat} (h : i < 61) : Fit (mF i) :=
  ⟨by show (0 : Int) ≤ 1; omega, by show (1 : Int) ≤ 8; omega, by show (0 : Int) ≤ 0; omega, by show (0 : Int) ≤ 8; omega, by show 1 ≤ 7 + i; omega, by show 7 + i ≤ _; omega, by show i + 1 ≤ _; omega, Nat.zero_le _, Nat.zero_le _, Nat.zero_le _, .inr rfl⟩
theorem mG_fit {i : Nat} (h : i < 61) : Fit (mG i) :=
  ⟨by show (0 : Int) ≤ 0; omega, by show (0 : Int) ≤ 8; omega, by show (0 : Int) ≤ 1; omega, by show (1 : Int) ≤ 8; omega, by show 1 ≤ i + 1; omega, by show i + 1 ≤ _; omega, by show 7 + i ≤ _; omega, by show 1 ≤ _; omega, Nat.zero_le _, by show 2 ≤ 2048; omega, .inl (by show 0 < 1; omega)⟩
theorem mB_byt {i : Nat} (h : i < 61) : Byt (mB i) := by
  intro a ha
  simp [mB] at ha
  omega
theorem m_bad {i gp : Nat} (h : i < 61) : badP (m0 i gp) (mF i) = false := by
  unfold badP
  rw [(fit_iff _).2 (mF_fit h)]
  simp [m0, ls0, mF]
theorem m_hear {i gp : Nat} (h : i < 61) (iv : Value) : { hearP (m0 i gp) (mF i) with iv := iv } = m1 i gp iv := by
  have e : newP (m0 i gp) (mF i) = { m0 i gp with known := 7 + i, iv := NL, items := [], gone := 0, out := 0, heard := 0, ack := false, left := 0, gap := 1 } := by
    unfold newP; rw [if_pos (by show 0 < 7 + i; omega)]; rfl
  unfold hearP
  rw [m_bad h, if_neg (by simp), if_pos (by rfl), e]
  simp [upP, upB, seqP, rightP, ackP, dropP, goneN, mF, m0, ls0, m1]
theorem m_handed {i gp : Nat} (h : i < 61) : handedP (m0 i gp) (mF i) = false := by
  have e : (newP (m0 i gp) (mF i)).heard = 0 := by unfold newP; rw [if_pos (by show 0 < 7 + i; omega)]
  unfold handedP upB
  rw [m_bad h, e]
  simp [mF]
theorem m_anew {i gp : Nat} (h : i < 61) : anewP (m0 i gp) (mF i) = true := by
  unfold anewP
  rw [m_bad h]
  exact decide_eq_true (by show 0 < 7 + i; omega)
theorem m_fine {i gp : Nat} (h : i < 61) : fineP (m0 i gp) (mF i) = true := by
  unfold fineP
  rw [m_bad h]
  simp [m0, ls0, mF]
theorem m_body {i gp : Nat} (h : i < 61) : bodyP (m0 i gp) (mF i) = [] := by unfold bodyP; rw [m_handed h]; rfl
theorem m_sent (i gp : Nat) (iv iv' v : Value) : { sentP (m1 i gp iv) with iv := iv', items := (m1 i gp iv).items ++ [(v, mB i)] } = m2 i gp iv' v := by
  have e : sentP (m1 i gp iv) = freshP (m1 i gp iv) := if_pos rfl
  rw [e]; rfl
theorem m_said (i gp : Nat) (iv v : Value) : saidP (m2 i gp iv v) = [mG i] := by
  have et : timeP (m2 i gp iv v) = true := rfl
  have em : mayP (m2 i gp iv v) = 1 := rfl
  have er : rowP' (m2 i gp iv v) = ([mG i], 1) := by
    unfold rowP'
    rw [if_pos (by show 0 < 7 + i; omega), et, em]
    rfl
  unfold saidP wordP
  rw [er]
  rfl
end Go.Proofs.YtoeiaimoppmjdaaDoor.Lk
/- LinkMany: any number of links side by side. -/
namespace Go.Proofs.YtoeiaimoppmjdaaDoor.Lk
open Go.RowKit Go.Proofs.YtoeiaimoppmjdaaDoorW.PrintWords Go.Proofs.YtoeiaimoppmjdaaDoor.Mem Go.Proofs.YtoeiaimoppmjdaaDoor.Wr Go.Proofs.YtoeiaimoppmjdaaDoor.Bytes Go.Proofs.YtoeiaimoppmjdaaDoor.App
set_option linter.unusedVariables false
set_option linter.unusedSimpArgs false
theorem infoP : (Tryd.prog.info? 80).map (fun i => (i.zero, i.size, i.bytes)) = some (some (.pointer none), 1, 8) := by kernel_rfl
/-- Links, each with its block. -/
def lksE (L : List (Nat × LS)) : List Ent := L.flatMap fun p => lkE p.1 p.2
def IsM (L : List (Nat × LS)) : Prop := ∀ (i : Nat) (h : i < L.length), LkV (L[i]).2 ∧ ∃ gp iv v, (L[i]).2 = m2 i gp iv v
def ptsL (L : List (Nat × LS)) : List Value := L.map fun p => pt p.1
theorem isM_nil : IsM [] := fun i h => by simp at h
theorem isM_snoc {L : List (Nat × LS)} (h : IsM L) (g : Nat) (s : LS) (hV : LkV s) (he : ∃ gp iv v, s = m2 L.length gp iv v) : IsM (L ++ [(g, s)]) := by
  intro i hi
  by_cases h1 : i < L.length
  · rw [List.getElem_append_left h1]; exact h i h1
  · obtain rfl : i = L.length := by simp at hi; omega
    rw [List.getElem_append_right (Nat.le_refl _)]
    simp only [Nat.sub_self, List.getElem_cons_zero]
    exact ⟨hV, he⟩
theorem lks_snoc (L : List (Nat × LS)) (g : Nat) (s : LS) : lksE (L ++ [(g, s)]) = lksE L ++ lkE g s := by unfold lksE; rw [List.flatMap_append]; simp
theorem lks_drop (L : List (Nat × LS)) (i : Nat) (h : i < L.length) : lksE (L.drop i) = lkE (L[i]).1 (L[i]).2 ++ lksE (L.drop (i + 1)) := by unfold lksE; rw [List.drop_eq_getElem_cons h, List.flatMap_cons]
set_option maxRecDepth 20000 in
set_option maxHeartbeats 6400000 in
theorem many_walk (w : World) (n : Int) (hn : -9223372036854775808 ≤ n ∧ n ≤ 9223372036854775807) (ht : ErrTab w) (hz : 0 < w.heap.size) :
    Calls Tryd.prog 10 #[.int .i64 n] w fun e w' => e = .returned (.bool true) ∧ Below w.heap.size w w' := by
  obtain ⟨m, hm, hm2⟩ : ∃ m : Nat, 2 + n % 60 = (m : Int) ∧ m ≤ 61 := ⟨(2 + n % 60).toNat, by have := Int.emod_nonneg n (b := 60) (by omega); omega, by have := Int.emod_lt_of_pos n (b := 60) (by omega); omega⟩
  have CW := Lib.hid (within_calls n 60 w (by omega) (by omega) hn.1 hn.2)
  have wm : IntKind.i64.wrap (2 + n % 60) = (m : Int) := by rw [IntWalk.i64_in _ ⟨by omega, by omega⟩, hm]
  have HT := Lib.hid ht
  have HZ := Lib.hid hz
  clear hn ht hz hm
  go_enter Tryd.func10, Tryd.ntmps10
  go_wp2_with fail
  refine CW.out.mono ?_; rintro e w1 ⟨rfl, rfl⟩
  go_upto_block 0 with fail
  go_cut [4] (fun s4 wx => ∃ L : List (Nat × LS), L.length = m ∧ rowV s4 1 m (ptsL L) ∧ IsM L ∧ St w wx (rowE s4 80 1 m (ptsL L) ++ lksE L))
  case first =>
    go_wp2_with fail
    go_loopg [4, 5] m (fun gk s4 s5 wr => ∃ L : List (Nat × LS), gk = m - L.length ∧ L.length ≤ m ∧ s5 = .int .i64 L.length ∧ rowV s4 1 L.length (ptsL L) ∧ IsM L ∧ St w wr (rowE s4 80 1 L.length (ptsL L) ++ lksE L))
    case atStart => exact ⟨[], rfl, Nat.zero_le _, rfl, rowV_nil 1, isM_nil, St.start w⟩
    case round =>
      obtain ⟨L, hgk, hq, rfl, hrow, hL, hs⟩ := hrel
      obtain ⟨q, hq0⟩ : ∃ q, q = L.length := ⟨_, rfl⟩
      rw [← hq0] at hgk hq hrow hs ⊢
      have HGK := Lib.hid hgk
      have HROW := Lib.hid hrow
      have HL := Lib.hid hL
      have HS := Lib.hid hs
      have HQ0 := Lib.hid hq0
      clear hgk hrow hL hs hq0
      by_cases hlt : q < m
      · have i1 : (q : Int) < (m : Int) := by omega
        have hq61 : q < 61 := by omega
        obtain ⟨A4, c4, rfl⟩ := row_form HROW.out
        have e5 : IntKind.u8.wrap (q : Int) = (q : Int) := IntWalk.u8_in _ ⟨by omega, by omega⟩
        have cn := lnew_calls w wr _ 0 1 3 4 (q + 1) HS.out
        rw [show (((q + 1 : Nat)) : Int) = (q : Int) + 1 by omega] at cn
        have CN := Lib.hid cn
        have HQ61 := Lib.hid hq61
        have HLT := Lib.hid hlt
        clear hlt hq61 cn
        go_wp2_with fail
        refine CN.out.mono ?_; rintro e w2 ⟨g, gp, cc, rfl, hcc, hcc2, hs2⟩
        obtain rfl : cc = 4 := hcc2 ⟨by omega, by omega⟩
        have hs2 : St w w2 (lkE g (m0 q gp) ++ _) := hs2
        have hv0 : LkV (m0 q gp) := ls0V 0 1 (q + 1) 3 gp 4 ⟨by omega, by omega⟩
        have hq61 := HQ61.out
        have ch := hear_calls (mF q) none 0 hs2 hv0 rdR_nil (fun a h => (by cases h)) (by show 0 ≤ _; omega) (by show 0 + 0 < _; omega) (by show 0 + 1 < _; omega)
        simp only [m_handed hq61, m_anew hq61, m_fine hq61, m_body hq61, m_hear hq61] at ch
        have CH : Hid (Calls Tryd.prog 54 #[pt g, .agg #[.int .i64 1, .int .i64 0, .int .u64 (7 + (q : Int)), .int .u64 ((q : Int) + 1), .int .u64 0, .int .u64 0, .slice none 0 0]] w2 fun e w' => ∃ iv v, e = .returned (.agg #[v, .bool false, .bool true, .bool true]) ∧ byV v [] ∧ LkV (m1 q gp iv) ∧ St w w' (lkE g (m1 q gp iv) ++ (byR v [] ++ (rowE (.slice A4 q c4) 80 1 q (ptsL L) ++ lksE L)))) := by
          have e : frC (mF q) none 0 = #[.int .i64 1, .int .i64 0, .int .u64 (7 + (q : Int)), .int .u64 ((q : Int) + 1), .int .u64 0, .int .u64 0, .slice none 0 0] := by
            show #[Value.int .i64 1, .int .i64 0, .int .u64 (((7 + q : Nat)) : Int), .int .u64 (((q + 1 : Nat)) : Int), .int .u64 0, .int .u64 0, .slice none 0 0] = _
            rw [show (((7 + q : Nat)) : Int) = 7 + (q : Int) by omega, show (((q + 1 : Nat)) : Int) = (q : Int) + 1 by omega]
          show Calls _ _ _ _ _
          rw [← e]
          exact ch
        clear CN hcc hcc2 hs2 hv0 hq61 ch
        go_wp2_with fail
        refine CH.out.mono ?_; rintro e w3 ⟨iv, v, rfl, hv, hV1, hs3⟩
        obtain ⟨Av, cv, rfl⟩ := byV_form hv
        obtain ⟨W4, hW4⟩ : ∃ W4, W4 = w3.alloc (.cells #[.slice Av 0 cv, .bool false, .bool true, .bool true] 91) := ⟨_, rfl⟩
        obtain ⟨bh, hbh⟩ : ∃ bh, bh = w3.heap.size := ⟨_, rfl⟩
        have h4 := hs3.newB #[.slice Av 0 cv, .bool false, .bool true, .bool true] 91
        rw [← hW4, ← hbh] at h4
        have y2 : W4.cell? ⟨bh, 2, none⟩ = some (.bool true) := blk_cell h4.hd 2
        have y3 : W4.cell? ⟨bh, 3, none⟩ = some (.bool true) := blk_cell h4.hd 3
        obtain ⟨W5, hW5⟩ : ∃ W5, W5 = W4.alloc (.cells #[.int .u8 (q : Int), .int .u8 120] 5) := ⟨_, rfl⟩
        obtain ⟨bx, hbx⟩ : ∃ bx, bx = W4.heap.size := ⟨_, rfl⟩
        have h5 : St w W5 (byR (.slice (some ⟨bx, 0, none⟩) 2 2) (mB q) ++ (lkE g (m1 q gp iv) ++ (rowE (.slice A4 q c4) 80 1 q (ptsL L) ++ lksE L))) := by
          rw [hW5, hbx]
          exact (h4.new (.cells #[.int .u8 (q : Int), .int .u8 120] 5) (P := rowP 2 5 1 2 (encs I (mB q))) ⟨_, rfl, rfl, rfl⟩).re (M := byR (.slice (some ⟨W4.heap.size, 0, none⟩) 2 2) (mB q) ++ (lkE g (m1 q gp iv) ++ (rowE (.slice A4 q c4) 80 1 q (ptsL L) ++ lksE L))) (fun x => by
            have e : cnt x (byR (.slice (some ⟨W4.heap.size, 0, none⟩) 2 2) (mB q)) = one x (W4.heap.size, rowP 2 5 1 2 (encs I (mB q))) := by
              show cnt x [(W4.heap.size, rowP 2 5 1 2 (encs I (mB q)))] = _
              rw [cnt_cons, cnt_nil]; rfl
            simp only [cnt_append, cnt_cons, e]; omega)
        have hvx : byV (.slice (some ⟨bx, 0, none⟩) (mB q).length 2) (mB q) := ⟨rfl, .inr ⟨bx, 2, rfl, Nat.le_refl _, by decide⟩⟩
        have cs := send_yes (mB q) (some ⟨bx, 0, none⟩) 2 (h5.re (M := lkE g (m1 q gp iv) ++ (byR (.slice (some ⟨bx, 0, none⟩) 2 2) (mB q) ++ (rowE (.slice A4 q c4) 80 1 q (ptsL L) ++ lksE L))) (fun x => by simp only [cnt_append]; omega)) hV1 (rdR_held hvx (fun x => by rw [cnt_append]; exact Nat.le_add_right _ _)) (mB_byt HQ61.out) (by show 2 ≤ 2048; omega) (by show 0 ≤ _; omega) (by show 0 + 0 < _; omega)
        simp only [m_sent] at cs
        have CS : Hid (Calls Tryd.prog 55 #[pt g, .slice (some ⟨bx, 0, none⟩) 2 2] W5 fun e w' => e = .returned (.int .i64 0) ∧ ∃ iv' v, LkV (m2 q gp iv' v) ∧ St w w' (lkE g (m2 q gp iv' v) ++ (byR (.slice (some ⟨bx, 0, none⟩) 2 2) (mB q) ++ (rowE (.slice A4 q c4) 80 1 q (ptsL L) ++ lksE L)))) := cs
        have HW4 := Lib.hid hW4
        have HBH := Lib.hid hbh
        have HW5 := Lib.hid hW5
        have HBX := Lib.hid hbx
        clear CH hv hV1 hs3 h4 h5 hvx cs hW4 hbh hW5 hbx
        go_upto_region 10 with fail
        rw [← HW4.out, ← HBH.out]
        go_wp2_with fail
        rw [← HW5.out, ← HBX.out]
        refine CS.out.mono ?_; rintro e w6 ⟨rfl, iv6, v6, hV6, hs6⟩
        have h7 := hs6.newB #[pt g] 80
        obtain ⟨W7, hW7⟩ : ∃ W7, W7 = w6.alloc (.cells #[pt g] 80) := ⟨_, rfl⟩
        obtain ⟨b7, hb7⟩ : ∃ b7, b7 = w6.heap.size := ⟨_, rfl⟩
        rw [← hW7, ← hb7] at h7
        obtain ⟨v8, W8, hrun, h8, hv8⟩ := row_append (P := Tryd.prog) (h7.re (M := rowE (.slice A4 q c4) 80 1 q (ptsL L) ++ (lksE L ++ lkE g (m2 q gp iv6 v6))) (fun x => by simp only [cnt_append, cnt_cons]; omega)) HROW.out 88 88 (.pointer none) 8 Tryd.underlying88 infoP rfl (by have := HQ61.out; omega) (by have := HQ61.out; omega) ⟨b7, 0, none⟩ 1 (pt g) (blk_cell h7.hd 0) rfl
        obtain ⟨A8, c8, rfl⟩ := row_form hv8
        have HRUN := Lib.hid hrun
        have H8 := Lib.hid h8
        have HV8 := Lib.hid hv8
        have HV6 := Lib.hid hV6
        have HW7 := Lib.hid hW7
        have HB7 := Lib.hid hb7
        clear CS hV6 hs6 h7 hrun h8 hv8 hW7 hb7 y2 y3
        go_wp2_with (at_builtin; rw [← HW7.out, ← HB7.out]; refine wpList_append_run (o := ⟨some 54, _, _, _, _, _⟩) rfl (.tmp 51) (.tmp 53) 88 rfl (.slice A4 q c4) (.slice (some ⟨b7, 0, none⟩) 1 1) (.slice A8 (q + 1) c8) W8 rfl rfl HRUN.out ?_)
        go_roundg (m - (q + 1))
        case measure => have := HGK.out; have := HLT.out; omega
        case rel =>
          have el : (L ++ [(g, m2 q gp iv6 v6)]).length = q + 1 := by rw [List.length_append, ← HQ0.out]; rfl
          have ep : ptsL (L ++ [(g, m2 q gp iv6 v6)]) = ptsL L ++ [pt g] := by unfold ptsL; rw [List.map_append]; rfl
          refine ⟨L ++ [(g, m2 q gp iv6 v6)], by rw [el], by rw [el]; have := HLT.out; omega, by rw [el]; go_num, by rw [el, ep]; exact HV8.out, isM_snoc HL.out g _ HV6.out ⟨gp, iv6, v6, by rw [← HQ0.out]⟩, ?_⟩
          rw [el, ep, lks_snoc]
          exact H8.out
      · have hqm : q = m := by omega
        have i1 : ¬ (q : Int) < (m : Int) := by omega
        have HQM := Lib.hid hqm
        clear hqm
        go_wp2_with fail
        go_meet
        have a1 := HROW.out
        have a2 := HS.out
        rw [HQM.out] at a1 a2
        exact ⟨L, by rw [← HQ0.out, HQM.out], a1, HL.out, a2⟩
  case rest =>
    obtain ⟨L, hLm, hrow, hL, hs⟩ := hcut
    obtain ⟨A4, c4, rfl⟩ := row_form hrow
    obtain ⟨wb, hwb⟩ : ∃ wb, wb = wc := ⟨_, rfl⟩
    rw [← hwb] at hs ⊢
    have HLM := Lib.hid hLm
    have HROW := Lib.hid hrow
    have HL := Lib.hid hL
    have H0 := Lib.hid hs
    clear hwb hLm hrow hL hs
    go_wp2_with fail
    go_loopg [8] m (fun gk s8 wr => ∃ i : Nat, gk = m - i ∧ i ≤ m ∧ s8 = .int .i64 i ∧ St w wr (rowE (.slice A4 m c4) 80 1 m (ptsL L) ++ lksE (L.drop i)))
    case atStart => exact ⟨0, rfl, Nat.zero_le _, rfl, H0.out⟩
    case round =>
      obtain ⟨i, hgk, hi, rfl, hs⟩ := hrel
      have HGK := Lib.hid hgk
      have HS := Lib.hid hs
      clear hgk hs
      by_cases hlt : i < m
      · have i1 : (i : Int) < (m : Int) := by omega
        have i2 : (0 : Int) ≤ (i : Int) := by omega
        have hiL : i < L.length := by rw [HLM.out]; exact hlt
        obtain ⟨g4, rfl⟩ : ∃ g4, A4 = some ⟨g4, 0, none⟩ := by
          rcases HROW.out.2 with ⟨q1, q2⟩ | ⟨g4, _, q1, _⟩
          · omega
          · injection q1 with q1; exact ⟨g4, q1⟩
        obtain ⟨gi, hgi⟩ : ∃ gi, gi = (L[i]).1 := ⟨_, rfl⟩
        have x4 := (St.at HS.out i (by rw [HROW.out.1]; omega) HROW.out.1).1
        have ex : (ptsL L)[i]? = some (pt gi) := by unfold ptsL; rw [List.getElem?_map, List.getElem?_eq_getElem hiL, hgi]; rfl
        rw [ex] at x4
        obtain ⟨hVi, gp, iv, v, hsi⟩ := HL.out i hiL
        have hs2 := HS.out
        rw [lks_drop L i hiL, ← hgi, hsi] at hs2
        rw [hsi] at hVi
        have ct := tick_calls w wr (rowE (.slice (some ⟨g4, 0, none⟩) m c4) 80 1 m (ptsL L) ++ lksE (L.drop (i + 1))) gi (m2 i gp iv v) (hs2.re (fun x => by simp only [cnt_append]; omega)) hVi (by show (-9223372036854775808 : Int) ≤ 3 ∧ (3 : Int) ≤ 9223372036854775807; omega) (by show 0 + 1 + 1 < _; omega) (by show 0 < _; omega) (by show 1 ≤ 900; omega)
        rw [m_said] at ct
        have CT := Lib.hid ct
        have HLT := Lib.hid hlt
        have HI61 : Hid (i < 61) := by show i < 61; omega
        clear hlt hiL hgi ex hVi hsi hs2 ct
        go_wp2_with fail
        refine CT.out.mono ?_; rintro e w2 ⟨ov, l, rfl, hov, hl, _, hs3⟩
        obtain ⟨vo, rfl⟩ : ∃ vo, l = [(vo, encF (mG i))] := by
          cases l with
          | nil => cases hl
          | cons a t =>
            simp only [List.map_cons, List.map_nil, List.cons.injEq, List.map_eq_nil_iff] at hl
            obtain ⟨h1, h2⟩ := hl
            exact ⟨a.1, by rw [h2, ← h1]⟩
        have hrw : rowV ov 1 1 [vo] := hov.row
        have hbv : byV vo (encF (mG i)) := hov.by_ _ (List.mem_singleton.2 rfl)
        obtain ⟨Ao, co, rfl⟩ := row_form hrw
        obtain ⟨go, rfl⟩ : ∃ go, Ao = some ⟨go, 0, none⟩ := by
          rcases hrw.2 with ⟨q1, q2⟩ | ⟨go, _, q1, _⟩
          · omega
          · injection q1 with q1; exact ⟨go, q1⟩
        obtain ⟨Av, cv, rfl⟩ := byV_form hbv
        have h3 : St w w2 (rowE (.slice (some ⟨go, 0, none⟩) 1 co) 22 1 1 [.slice Av (encF (mG i)).length cv] ++ (byR (.slice Av (encF (mG i)).length cv) (encF (mG i)) ++ (rowE (.slice (some ⟨g4, 0, none⟩) m c4) 80 1 m (ptsL L) ++ lksE (L.drop (i + 1))))) := hs3.re (fun x => by simp only [outE, List.length_cons, List.length_nil, Nat.zero_add, List.map_cons, List.map_nil, List.flatMap_cons, List.flatMap_nil, cnt_append, cnt_nil]; omega)
        have xo := (St.at h3 0 (by show 0 < 1; omega) rfl).1
        have xo' : w2.cell? ⟨go, 0, none⟩ = some (.slice Av (encF (mG i)).length cv) := xo
        have hfit := mG_fit HI61.out
        have hlen := encF_len hfit
        have hgb : Byt (encF (mG i)) := encF_byt' (f := mG i) (mB_byt HI61.out)
        have cd := rdec_calls (encF (mG i)) Av cv w2 (by_reads h3 (fun x => by simp only [cnt_append]; omega) hbv) hgb (by_cap hbv) (by omega)
        have CD := Lib.hid cd
        have H3 := Lib.hid h3
        have HFIT := Lib.hid hfit
        clear CT hov hl hs3 hrw hbv h3 xo hfit hlen hgb cd x4
        go_wp2_with fail
        refine CD.out.mono ?_; rintro e w3 hpost
        obtain ⟨ok, rd⟩ := dec_enc HFIT.out
        rcases hpost with ⟨_, A7, c7, rfl, hb7, h7⟩ | ⟨h, _⟩
        rotate_left
        · rw [ok] at h; cases h
        rw [rd] at hb7 h7 ⊢
        have h8 := St.lift H3.out h7
        obtain ⟨W8, hW8⟩ : ∃ W8, W8 = w3.alloc (.cells (frC (mG i) A7 c7) 69) := ⟨_, rfl⟩
        obtain ⟨b6, hb6⟩ : ∃ b6, b6 = w3.heap.size := ⟨_, rfl⟩
        have h9 := h8.newB (frC (mG i) A7 c7) 69
        rw [← hW8, ← hb6] at h9
        obtain ⟨W9, hW9⟩ : ∃ W9, W9 = W8.alloc (.cells #[.int .u8 (i : Int), .int .u8 120] 5) := ⟨_, rfl⟩
        obtain ⟨bx, hbx⟩ : ∃ bx, bx = W8.heap.size := ⟨_, rfl⟩
        have h10 := h9.new (.cells #[.int .u8 (i : Int), .int .u8 120] 5) (P := rowP 2 5 1 2 (encs I (mB i))) ⟨_, rfl, rfl, rfl⟩
        rw [← hW9, ← hbx] at h10
        have hvx : byV (.slice (some ⟨bx, 0, none⟩) (mB i).length 2) (mB i) := ⟨rfl, .inr ⟨bx, 2, rfl, Nat.le_refl _, by decide⟩⟩
        have ebx : ∀ x, cnt x (byR (.slice (some ⟨bx, 0, none⟩) (mB i).length 2) (mB i)) = one x (bx, rowP 2 5 1 2 (encs I (mB i))) := fun x => by
          show cnt x [(bx, rowP 2 5 1 2 (encs I (mB i)))] = _
          rw [cnt_cons, cnt_nil]; rfl
        have cq := eqf_calls (mG i) (mG i) A7 (some ⟨bx, 0, none⟩) c7 2 W9 (by_reads h10 (fun x => by simp only [cnt_append, cnt_cons]; omega) hb7) (by_reads (xs := mB i) (c := 2) h10 (fun x => by rw [ebx]; simp only [cnt_cons]; omega) hvx) (by show 2 ≤ _; omega)
        have CQ : Hid (Calls Tryd.prog 48 #[.agg (frC (mG i) A7 c7), .agg #[.int .i64 0, .int .i64 1, .int .u64 ((i : Int) + 1), .int .u64 (7 + (i : Int)), .int .u64 1, .int .u64 0, .slice (some ⟨bx, 0, none⟩) 2 2]] W9 fun e w' => e = .returned (.bool true) ∧ Below W9.heap.size W9 w') := by
          have e : frC (mG i) (some ⟨bx, 0, none⟩) 2 = #[.int .i64 0, .int .i64 1, .int .u64 ((i : Int) + 1), .int .u64 (7 + (i : Int)), .int .u64 1, .int .u64 0, .slice (some ⟨bx, 0, none⟩) 2 2] := by
            show #[Value.int .i64 0, .int .i64 1, .int .u64 (((i + 1 : Nat)) : Int), .int .u64 (((7 + i : Nat)) : Int), .int .u64 1, .int .u64 0, .slice (some ⟨bx, 0, none⟩) 2 2] = _
            rw [show (((7 + i : Nat)) : Int) = 7 + (i : Int) by omega, show (((i + 1 : Nat)) : Int) = (i : Int) + 1 by omega]
          show Calls _ _ _ _ _
          rw [← e]
          exact cq.mono fun e w' ⟨b9, he, hb9, hbl9⟩ => by
            obtain rfl : b9 = true := hb9.2 rfl
            exact ⟨he, hbl9⟩
        have y0 := h9.cellOf (g := b6) (cs := frC (mG i) A7 c7) (t := 69) (by simp) 0 rfl
        have y1 := h9.cellOf (g := b6) (cs := frC (mG i) A7 c7) (t := 69) (by simp) 1 rfl
        have y2 := h9.cellOf (g := b6) (cs := frC (mG i) A7 c7) (t := 69) (by simp) 2 rfl
        have y3 := h9.cellOf (g := b6) (cs := frC (mG i) A7 c7) (t := 69) (by simp) 3 rfl
        have y4 := h9.cellOf (g := b6) (cs := frC (mG i) A7 c7) (t := 69) (by simp) 4 rfl
        have y5 := h9.cellOf (g := b6) (cs := frC (mG i) A7 c7) (t := 69) (by simp) 5 rfl
        have y6 := h9.cellOf (g := b6) (cs := frC (mG i) A7 c7) (t := 69) (by simp) 6 rfl
        have H10 := Lib.hid h10
        have HW8 := Lib.hid hW8
        have HB6 := Lib.hid hb6
        have HW9 := Lib.hid hW9
        have HBX := Lib.hid hbx
        have e5 : IntKind.u8.wrap (i : Int) = (i : Int) := IntWalk.u8_in _ ⟨by omega, by omega⟩
        clear CD h7 h8 h9 h10 hb7 hW8 hb6 hW9 hbx hvx ebx cq ok rd xo'
        go_upto_region 20 with fail
        rw [← HW8.out, ← HB6.out]
        go_wp2_with fail
        rw [← HW9.out, ← HBX.out]
        refine CQ.out.mono ?_; rintro e w11 ⟨rfl, hb11⟩
        have H11 := Lib.hid (H10.out.below hb11)
        clear CQ hb11 y0 y1 y2 y3 y4 y5 y6
        go_wp2_with fail
        go_roundg (m - (i + 1))
        case measure => have := HGK.out; have := HLT.out; omega
        case rel => exact ⟨i + 1, rfl, by have := HLT.out; omega, by go_num, H11.out.re (fun x => by simp only [cnt_append, cnt_cons]; omega)⟩
      · have i1 : ¬ (i : Int) < (m : Int) := by omega
        have CB := Lib.hid (begun_calls wr (HT.out.below HS.out.bl HZ.out) (Nat.lt_of_lt_of_le HZ.out HS.out.bl.size))
        go_wp2_with fail
        refine CB.out.mono ?_; rintro e w9 ⟨rfl, hb9⟩
        have HE := Lib.hid (HS.out.bl.trans (hb9.mono HS.out.bl.size))
        clear hb9
        go_wp2_with fail
        go_ret
        exact ⟨rfl, HE.out⟩
end Go.Proofs.YtoeiaimoppmjdaaDoor.Lk
/- LinkMany over the form's reading. -/
namespace Go.Proofs.YtoeiaimoppmjdaaDoor.LinkMany
open Go Go.ChangeShapes Go.WideShapes Go.RowKit Go.Deep Go.Proofs.YtoeiaimoppmjdaaDoorW.PrintWords Go.Proofs.YtoeiaimoppmjdaaDoor.OpnS Go.Proofs.YtoeiaimoppmjdaaDoor.Args Go.Proofs.YtoeiaimoppmjdaaDoor.Lk
set_option linter.unusedVariables false
set_option linter.unusedSimpArgs false
set_option maxRecDepth 20000 in
theorem contract {H : Type} {enc : TypeId × Value → H} (W : World) (base : Nat) (v0 : Value) (d0 : DataW H) (p0 : List MemPlace) (hok : Value.okWide Tryd.prog W .any base 3 v0)
    (h0 : DataW.Trod enc Tryd.prog W 0 (fun _ => true) true 3 v0 d0 p0) (hlt : ∀ x ∈ p0, x.block < W.heap.size) (hsz : (DataW.weightsEach Tryd.prog [3] [d0]).all (· ≤ reachBytes) = true)
    (hL : laidMetH Tryd.prog [("till/code.errnos", Rows.laid_till_code_errnos)] W) :
    Calls Tryd.prog 10 #[v0] W fun e W' => e = .returned (.bool true) ∧ Below W.heap.size W W' := by
  obtain ⟨n, rfl⟩ := okWide_int Tryd.underlying3 hok
  obtain ⟨fuel, hf⟩ := h0
  obtain ⟨n1, hn, _, wf⟩ := DataW.trod_int Tryd.underlying3 hf
  obtain rfl : n = n1 := by
    have : [Value.int .i64 n] = [Value.int .i64 n1] := hn
    injection this with this
    injection this
  obtain ⟨ht, hz⟩ := Wr.errtab hL
  exact many_walk W n (in64 wf) ht hz
end Go.Proofs.YtoeiaimoppmjdaaDoor.LinkMany
