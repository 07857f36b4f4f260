/- Contract of tilllaw1's read: a Reader over a list, beside the document's over the same bytes. -/
import Derived.Test.YtoeiaimoppmjdaaDoorPairs2
import Derived.Test.YtoeiaimoppmjdaaDoorRW
import Derived.Test.YtoeiaimoppmjdaaDoorErrTab
import Derived.Below
import Derived.Lib.QuietBelow
namespace Go.Proofs.YtoeiaimoppmjdaaDoor.Wr
open Go Go.ChangeShapes Go.WideShapes Go.RowKit Go.Deep Go.Proofs.YtoeiaimoppmjdaaDoorW.PrintWords Go.Proofs.YtoeiaimoppmjdaaDoor.Bytes Go.Proofs.YtoeiaimoppmjdaaDoor.Args Go.Proofs.YtoeiaimoppmjdaaDoor.OpnS
open Go.Sort (grow)
set_option linter.unusedVariables false
set_option linter.unusedSimpArgs false
set_option maxRecDepth 100000 in
set_option maxHeartbeats 6400000 in
theorem readp_calls (xs : List Int) (os : List CO) (Ai Ab A : Option Addr) (ci cb c : Nat) (W : World) (hri : ReadsOf I 0 W Ai xs.length xs) (hrb : ReadsOf I 0 W Ab xs.length xs) (hx : Byt xs) (hxl : xs.length ≤ 1048576) (hr : Args.KOp.C W A os.length os)
    (hv : ∀ o, o ∈ os → I64 o.2.1 ∧ I64 o.2.2.1 ∧ 0 ≤ o.2.2.2.1 ∧ o.2.2.2.1 ≤ 18446744073709551615)
    (ht : ErrTab W) (hz : 0 < W.heap.size) :
    Calls Tryd.prog 30 #[.slice Ai xs.length ci, .slice Ab xs.length cb, .slice A os.length c] W fun e w' => e = .returned (.bool true) ∧ Below W.heap.size W w' := by
  have hos := Kd.C_max hr
  have HZ : Hid (0 < W.heap.size) := hz
  have HT := Lib.hid ht
  have HR := Lib.hid hr
  have HRB := Lib.hid hrb
  have HV := Lib.hid hv
  have HX := Lib.hid hx
  have CRd := Lib.hid (read_calls xs Ai ci W W.heap.size (Nat.le_refl _) hri (by omega))
  clear hr hv ht hz hx hri hrb
  go_enter Tryd.func30, Tryd.ntmps30
  go_wp2_with fail
  refine CRd.out.mono ?_; rintro e wa ⟨g, v, rfl, hd, hba, _, _⟩
  have CCp := Lib.hid (copy_calls xs Ab cb wa wa.heap.size (Nat.le_refl _) (HRB.out.below hba) (by omega))
  have HD := Lib.hid hd
  have HBA := Lib.hid hba
  clear hd hba
  go_wp2_with fail
  refine CCp.out.mono ?_; rintro e wb ⟨uu, rfl, hu, hbb⟩
  obtain ⟨Ae, ce, rfl, hre⟩ := own_reads_of (d := (0 : Int)) hu
  obtain ⟨wc, hwc⟩ : ∃ wc, wc = wb.alloc (.cells #[.slice Ae xs.length ce, .int .i64 0, .int .i64 0] 34) := ⟨_, rfl⟩
  have hbc : Below wb.heap.size wb wc := by rw [hwc]; exact (Below.refl _ _).alloc (Nat.le_refl _) _
  have hne : wc.heap[wb.heap.size]? = some (.cells #[.slice Ae xs.length ce, .int .i64 0, .int .i64 0] 34 (0, 0)) := by rw [hwc]; exact blk_new wb _
  have ho := pw_own_below hu hbc
  have hp : Pr wc W.heap.size g wb.heap.size v Ae ce xs ⟨0, 0⟩ := by
    have l1 := HBA.out.size
    have l2 := hbb.size
    have l3 := blk_lt HD.out.blk
    refine ⟨rdr_below HD.out (hbb.trans (hbc.mono l2)), ⟨hne, by omega, own_reads ho (by simp), Bytes.own_cap ho, fun _ => own_adr (own_ne_type ho hne (by decide))⟩, fun _ ad e => ?_⟩
    have := own_adr_le ho ad e
    omega
  have HB : Hid (Below W.heap.size W wc) := (HBA.out.trans (hbb.mono HBA.out.size)).trans (hbc.mono (Nat.le_trans HBA.out.size hbb.size))
  have HP := Lib.hid hp
  have HWC := Lib.hid hwc
  clear hu hbb hre hwc hbc hne ho hp
  go_wp2_with fail
  rw [← HWC.out]
  go_wp2_with fail
  go_loopw [9] (fun i wr => ∃ (k : Nat) (s : RS), i = .int .i64 k ∧ k ≤ os.length ∧ k ≤ 400 ∧ s.Ok xs ∧ Pr wr W.heap.size g wb.heap.size v Ae ce xs s ∧ Below W.heap.size W wr) (fun i _ => 400 - (intOf i).toNat)
  case atStart => exact ⟨0, ⟨0, 0⟩, rfl, by omega, by omega, ⟨by simp, by simp⟩, HP.out, HB.out⟩
  case round =>
    obtain ⟨k, s, rfl, hk, hk4, hok, hp, hb⟩ := hrel
    obtain ⟨w0, rfl⟩ : ∃ w0, w0 = wr := ⟨_, rfl⟩
    have HPK := Lib.hid hp
    have HBK := Lib.hid hb
    have HOK := Lib.hid hok
    by_cases hgo : k < os.length ∧ k < 400
    · obtain ⟨z1, z2⟩ := hgo
      obtain ⟨ad, Ao, co, rfl, hop⟩ := op_at (Kd.C_below HR.out HBK.out) k z1 rfl
      obtain ⟨o, ho⟩ : ∃ o, o = os[k] := ⟨_, rfl⟩
      have hvo := HV.out os[k] (List.getElem_mem z1)
      rw [← ho] at hop hvo
      have q0 := hop.c0
      have q1 := hop.c1
      have q2 := hop.c2
      have q3 := hop.c3
      have q4 := hop.c4
      obtain ⟨k0, k1, k2, k3, bb⟩ := o
      have i1 : (k : Int) < (os.length : Int) := by omega
      have i2 : (k : Int) < 400 := by omega
      have i3 : (0 : Int) ≤ (k : Int) := by omega
      obtain ⟨n3, rfl⟩ := Int.eq_ofNat_of_zero_le hvo.2.2.1
      have CRD := Lib.hid (reads_calls k0 k1 k2 n3 bb Ao co w0 W.heap.size g wb.heap.size v Ae ce xs s hp hok hb.size HX.out (by omega) (HT.out.below hb HZ.out) (Nat.lt_of_lt_of_le HZ.out hb.size) hvo.2.1.1 hvo.2.1.2)
      clear hop ho hvo hb hp hok
      go_wp2_with fail
      refine CRD.out.mono ?_; rintro e w2 ⟨rfl, h2⟩
      have H2 := Lib.hid h2
      clear h2
      go_wp2_with fail
      exact ⟨⟨k + 1, _, by go_num, by omega, by omega, rOp_ok HOK.out k0 k2 n3, H2.out.pr, HBK.out.trans H2.out.bl⟩, by simp [intOf]; omega⟩
    · have hcase : ¬ (k : Int) < (os.length : Int) ∨ ((k : Int) < (os.length : Int) ∧ ¬ (k : Int) < 400) := by omega
      have y4 := cell_regrown (show w0.cell? ⟨wb.heap.size, 1, none⟩ = some (.int .i64 (s.at_ : Int)) by have h := blk_cell hp.ey.blk 1; simpa using h)
      have q9 : IntKind.i64.wrap ((xs.length : Int) - (s.at_ : Int)) = (xs.length : Int) - (s.at_ : Int) := wrap_in (by have := hok.at_; omega) (by omega)
      have C1 : ∀ d os, Calls Tryd.prog 20 #[pt g] (grow (redrawn w0 d) os) fun e w'' => e = .returned (.int .i64 (s.at_ : Int)) ∧ ∃ p : Regrown, w'' = grow (redrawn w0 p.d) p.os := fun d os =>
        Gen.calls_regrown ((at_calls (grow (redrawn w0 d) os) W.heap.size g v xs s (rdr_below hp.rd (below_regrown w0 d os))).mono fun e w' ⟨he, hw⟩ => ⟨he, by rw [hw]; exact below_regrown w0 d os⟩)
      have C2 : ∀ d os, Calls Tryd.prog 17 #[pt g] (grow (redrawn w0 d) os) fun e w'' => e = .returned (.int .i64 ((xs.length : Int) - (s.at_ : Int))) ∧ ∃ p : Regrown, w'' = grow (redrawn w0 p.d) p.os := fun d os =>
        Gen.calls_regrown ((left_calls (grow (redrawn w0 d) os) W.heap.size g v xs s.at_ s.met (rdr_below hp.rd (below_regrown w0 d os)) (by omega) (by have := hok.at_; omega)).mono fun e w' ⟨he, hw⟩ => ⟨he, (below_regrown w0 d os).trans (hw.mono (below_regrown w0 d os).size)⟩)
      have C3 : ∀ (v : Int) d os, Calls Tryd.prog 21 #[.int .i64 v] (grow (redrawn w0 d) os) fun e w'' => e = .returned (.int .i64 v) ∧ ∃ p : Regrown, w'' = grow (redrawn w0 p.d) p.os := fun v d os =>
        Gen.calls_regrown ((num1_calls v (grow (redrawn w0 d) os)).mono fun e w' ⟨he, hw⟩ => ⟨he, by rw [hw]; exact below_regrown w0 d os⟩)
      have C4 : ∀ d os, Calls Tryd.prog 23 #[pt g] (grow (redrawn w0 d) os) fun e w'' => e = .returned (.int .i64 (rEnd xs s)) ∧ ∃ p : Regrown, w'' = grow (redrawn w0 p.d) p.os := fun d os =>
        Gen.calls_regrown ((end_calls (grow (redrawn w0 d) os) W.heap.size g v xs s (rdr_below hp.rd (below_regrown w0 d os)) hok (HT.out.below (hb.trans ((below_regrown w0 d os).mono hb.size)) HZ.out) (by have := HZ.out; have := hb.size; have := (below_regrown w0 d os).size; omega)).mono fun e w' ⟨he, hw⟩ => ⟨he, (below_regrown w0 d os).trans (hw.mono (below_regrown w0 d os).size)⟩)
      have C5 : ∀ d os, Calls Tryd.prog 24 #[pt wb.heap.size] (grow (redrawn w0 d) os) fun e w'' => e = .returned (.int .i64 (rEnd xs s)) ∧ ∃ p : Regrown, w'' = grow (redrawn w0 p.d) p.os := fun d os =>
        Gen.calls_regrown ((eend_calls (grow (redrawn w0 d) os) W.heap.size wb.heap.size Ae ce xs s (hp.ey.below (below_regrown w0 d os)) hok).mono fun e w' ⟨he, hw⟩ => ⟨he, (below_regrown w0 d os).trans (hw.mono (below_regrown w0 d os).size)⟩)
      clear hgo hb hp hok
      rcases hcase with z0 | ⟨z0, z1⟩
      all_goals
        go_wp2_with fail
        refine wp_region_quiet_below (by kernel_rfl) (by kernel_rfl) ?_
        repeat (quiet_step (first | with_reducible exact C1 _ _ | with_reducible exact C2 _ _ | with_reducible exact C3 _ _ _ | with_reducible exact C4 _ _ | with_reducible exact C5 _ _))
        refine wpQuiet_nil ?_
        intro wi hw'
        have hbi : Below w0.heap.size w0 wi := by obtain ⟨⟨dq, osq⟩, hw''⟩ := hw'; rw [hw'']; exact below_regrown _ dq osq
        have HBI := Lib.hid hbi
        clear hw' hbi
        go_wp2_with fail
        go_ret
        exact ⟨by simp, HBK.out.trans (HBI.out.mono HBK.out.size)⟩
end Go.Proofs.YtoeiaimoppmjdaaDoor.Wr
