/- CodeSums: the sum of each text is the document's, of one text again and again, of another in the same place. -/
import Derived.Test.YtedbpagjhnkdbaaInto
namespace Go.Proofs.Ytedbpagjhnkdbaa.CodeSums
open Go.RowKit Go.Proofs.YtedbpagjhnkdbaaW.PrintWords Go.Proofs.Ytedbpagjhnkdbaa.Crc Go.Proofs.Ytedbpagjhnkdbaa.Bytes Go.Proofs.Ytedbpagjhnkdbaa.Opn
set_option linter.unusedVariables false
set_option linter.unusedSimpArgs false
abbrev KB := Kd.int .u8
theorem wrap64_nat (n : Nat) (h : n < 9223372036854775807) : wrap64 (n : Int) = (n : Int) := by unfold wrap64; omega
theorem wrapi_nat (n : Nat) (h : n < 9223372036854775807) : IntKind.i64.wrap (n : Int) = (n : Int) := by rw [IntKind.wrap_i64]; omega
set_option maxHeartbeats 6400000 in
set_option maxRecDepth 100000 in
theorem walk (ll : List (List Int)) (A : Option Addr) (c : Nat) (w : World) (hr : (Kd.slice 5 KB).C w A ll.length ll) (hv : ∀ l, l ∈ ll → Byt l) (hb : ∀ l, l ∈ ll → l.length ≤ 1048576) :
    Calls Try.prog 3 #[.agg #[.slice A ll.length c]] w fun e w' => e = .returned (.bool true) ∧ Below w.heap.size w w' := by
  have hn := Kd.C_max hr
  have HR := Lib.hid hr
  have HV := Lib.hid hv
  have HB := Lib.hid hb
  have HB0 : Hid (Below w.heap.size w (w.alloc (.cells #[.slice A ll.length c] 24))) := (Below.refl _ _).alloc (Nat.le_refl _) _
  have hbox0 : (w.alloc (.cells #[.slice A ll.length c] 24)).cell? ⟨w.heap.size, 0, none⟩ = some (.slice A ll.length c) := by go_simp
  obtain ⟨W0, hW0⟩ : ∃ W0, W0 = w.alloc (.cells #[.slice A ll.length c] 24) := ⟨_, rfl⟩
  have hsz : W0.heap.size = w.heap.size + 1 := by rw [hW0]; simp
  rw [← hW0] at hbox0 HB0
  have HX0 := Lib.hid hbox0
  have HW0 := Lib.hid hW0
  have HSZ := Lib.hid hsz
  clear hW0 hsz hbox0 hr hv hb
  have S5 : Hid (Calls Try.prog 9 #[.slice (some ⟨w.heap.size + 1, 0, none⟩) 5 5] (W0.alloc (.cells #[.int .u8 1, .int .u8 2, .int .u8 3, .int .u8 4, .int .u8 5] 5)) fun e w' => e = .returned (.int .u32 1191942644) ∧ Below W0.heap.size W0 w') := by
    rw [← HSZ.out]
    have h := sum_reads [1, 2, 3, 4, 5] (some ⟨W0.heap.size, 0, none⟩) 5 _ (lit_reads W0 5 [1, 2, 3, 4, 5] (by simp)) (by intro a ha; simp at ha; omega)
    rw [crc_five] at h
    exact h.mono fun e w' ⟨he, hb⟩ => ⟨he, ((Below.refl W0.heap.size W0).alloc (Nat.le_refl _) _).trans (hb.mono (by simp))⟩
  have S0 : Hid (∀ W, Calls Try.prog 9 #[.slice none 0 0] W fun e w' => e = .returned (.int .u32 0) ∧ Below W.heap.size W w') := fun W => by
    have h := sum_reads [] none 0 W (nil_reads W) (by intro a ha; cases ha)
    rw [crc_nil] at h; exact h
  go_enter Try.func3, Try.ntmps3
  go_wp2_with fail
  rw [← HW0.out]
  go_wp2_with fail
  refine S5.out.mono ?_; rintro e w1 ⟨rfl, hb1⟩
  have HB1 := Lib.hid hb1
  clear hb1
  go_wp2_with fail
  refine (S0.out _).mono ?_; rintro e w2 ⟨rfl, hb2⟩
  have HB2 := Lib.hid (HB1.out.trans (hb2.mono HB1.out.size))
  clear hb2
  go_wp2_with fail
  go_loopw [3] (fun i wr => ∃ k : Nat, i = .int .i64 k ∧ k ≤ ll.length ∧ Below W0.heap.size W0 wr) (fun i _ => ll.length - (intOf i).toNat)
  case atStart => exact ⟨0, rfl, by omega, HB2.out⟩
  case round =>
    obtain ⟨k, rfl, hk, hbk⟩ := hrel
    have HBK := Lib.hid hbk
    have hx0 : wr.cell? ⟨w.heap.size, 0, none⟩ = some (.slice A ll.length c) := (hbk.cell (p := ⟨w.heap.size, 0, none⟩) (by have := HSZ.out; simp; omega)).trans HX0.out
    clear hbk
    by_cases hlt : k < ll.length
    · have HRK := Lib.hid (Kd.C_below (Kd.C_below HR.out HB0.out) HBK.out)
      obtain ⟨ad, Ak, ck, rfl, hc1, hck, hC1⟩ := at_list HRK.out k hlt
      obtain ⟨ad', Ah, ch, hadd, hc2, hch, hC2⟩ := at_list HRK.out (k / 2) (by omega)
      injection hadd with hadd
      subst hadd
      have hvk := HV.out _ (List.getElem_mem hlt)
      have hbk := HB.out _ (List.getElem_mem hlt)
      have hvh := HV.out _ (List.getElem_mem (show k / 2 < ll.length by omega))
      have hbh := HB.out _ (List.getElem_mem (show k / 2 < ll.length by omega))
      obtain ⟨xs, hxs⟩ : ∃ xs, xs = ll[k] := ⟨_, rfl⟩
      obtain ⟨hs, hhs⟩ : ∃ hs, hs = ll[k / 2]'(by omega) := ⟨_, rfl⟩
      rw [← hxs] at hc1 hC1 hvk hbk
      rw [← hhs] at hc2 hC2 hvh hbh
      have HC1 := Lib.hid hC1
      have HRX := Lib.hid (Kd.reads_of_C (enc := I) (d := (0 : Int)) (h1 := fun _ => rfl) hC1)
      have HRH := Lib.hid (Kd.reads_of_C (enc := I) (d := (0 : Int)) (h1 := fun _ => rfl) hC2)
      have HVX : Hid (Byt xs) := hvk
      have HVH : Hid (Byt hs) := hvh
      have CL := Lib.hid (lend_calls xs Ak ck wr hC1 hbk)
      have b1 : (k : Int) < (ll.length : Int) := by omega
      have b2 : Int.tdiv (k : Int) 2 = ((k / 2 : Nat) : Int) := by rw [Int.tdiv_eq_ediv_of_nonneg (by omega)]; omega
      have b3 : (0 : Int) ≤ ((k / 2 : Nat) : Int) := by omega
      have b4 : ((k / 2 : Nat) : Int) < (ll.length : Int) := by omega
      obtain ⟨h2, hh2⟩ : ∃ h2 : Nat, h2 = k / 2 := ⟨_, rfl⟩
      have b5 : (k : Int) / 2 = (h2 : Int) := by omega
      have b6 : h2 < 9223372036854775807 := by omega
      have b7 := wrap64_nat h2 b6
      have b8 := wrapi_nat h2 b6
      clear b6
      rw [← hh2] at hc2 b2 b3 b4
      clear hxs hhs hC1 hC2 hvk hvh hh2
      go_wp2_with fail
      refine CL.out.mono ?_; rintro e wl ⟨g, cap, rfl, ho, hbl⟩
      have HO := Lib.hid ho
      have HBL := Lib.hid hbl
      have hy0 := pw_cell_below hbl hx0
      have hy1 := pw_cell_below hbl hc1
      have hy2 := pw_cell_below hbl hc2
      have HZ := Lib.hid (And.intro hy0 (And.intro hy1 hy2))
      have HSI : Hid (∀ W, Below wl.heap.size wl W → Calls Try.prog 9 #[.slice (some ⟨g, 0, none⟩) xs.length cap] W fun e w' => e = .returned (.int .u32 ((crc xs).toNat : Int)) ∧ Below wl.heap.size wl w') := fun W hW =>
        (sum_reads xs _ cap W (own_reads (pw_own_below HO.out hW) (marked_take xs)) HVX.out).mono fun e w' ⟨he, hb⟩ => ⟨he, hW.trans (hb.mono hW.size)⟩
      have HRXX : Hid (∀ W, Below wl.heap.size wl W → Calls Try.prog 11 #[.slice Ak xs.length ck] W fun e w' => e = .returned (.int .u32 ((crc xs).toNat : Int)) ∧ Below wl.heap.size wl w') := fun W hW =>
        (rsum_reads xs _ ck W (reads_keep HRX.out (HBL.out.trans (hW.mono HBL.out.size))) HVX.out hbk).mono fun e w' ⟨he, hb⟩ => ⟨he, hW.trans (hb.mono hW.size)⟩
      have HSH : Hid (∀ W, Below wl.heap.size wl W → Calls Try.prog 9 #[.slice Ah hs.length ch] W fun e w' => e = .returned (.int .u32 ((crc hs).toNat : Int)) ∧ Below wl.heap.size wl w') := fun W hW =>
        (sum_reads hs _ ch W (reads_keep HRH.out (HBL.out.trans (hW.mono HBL.out.size))) HVH.out).mono fun e w' ⟨he, hb⟩ => ⟨he, hW.trans (hb.mono hW.size)⟩
      have HRHH : Hid (∀ W, Below wl.heap.size wl W → Calls Try.prog 11 #[.slice Ah hs.length ch] W fun e w' => e = .returned (.int .u32 ((crc hs).toNat : Int)) ∧ Below wl.heap.size wl w') := fun W hW =>
        (rsum_reads hs _ ch W (reads_keep HRH.out (HBL.out.trans (hW.mono HBL.out.size))) HVH.out hbh).mono fun e w' ⟨he, hb⟩ => ⟨he, hW.trans (hb.mono hW.size)⟩
      have HIN : Hid (∀ W, Below wl.heap.size wl W → Calls Try.prog 12 #[.slice (some ⟨g, 0, none⟩) xs.length cap, .slice Ak xs.length ck] W fun e w' => e = .returned (.bool true) ∧ Below wl.heap.size wl w') := fun W hW =>
        (intact_calls xs Ak ck g cap _ W (reads_keep HRX.out (HBL.out.trans (hW.mono HBL.out.size))) hbk (pw_own_below HO.out hW)).mono fun e w' ⟨he, hb⟩ => ⟨he, hW.trans (hb.mono hW.size)⟩
      have HGL : Hid (g < wl.heap.size) := by
        obtain ⟨g', cap', he, h1, h2⟩ := HO.out.form (by rw [marked_length]; omega)
        injection he with e1 e2 e3
        injection e1 with e1
        injection e1 with e1 e2 e3
        show g < wl.heap.size
        omega
      have HGW : Hid (wr.heap.size ≤ g) := own_base HO.out g rfl
      have HOT : Hid (∀ W, Below wl.heap.size wl W → Calls Try.prog 13 #[.slice Ak xs.length ck] W fun e w' => ∃ (ys : List Int) (D : Option Addr) (cap2 base2 : Nat), e = .returned (.slice D xs.length cap2) ∧ ys.length = xs.length ∧ Byt ys ∧
          w'.ownsRow base2 5 1 (.slice D ys.length cap2) ys.length (encs I ys) ∧ ((Value.slice D ys.length cap2).ownBlock = none ∨ (Value.slice D ys.length cap2).ownBlock ≠ some g) ∧ Below wl.heap.size wl w') := fun W hW =>
        (other_calls xs Ak ck W (reads_keep HRX.out (HBL.out.trans (hW.mono HBL.out.size))) HVX.out hbk).mono fun e w' ⟨ys, D, cap2, he, hl, hy, ho, hb⟩ =>
          ⟨ys, D, cap2, W.heap.size, by rw [he, hl], hl, hy, ho, .inr (fun h => by have h1 := own_base ho g h; have h2 := HGL.out; have h3 := hW.size; omega), hW.trans (hb.mono hW.size)⟩
      have HLEN : Hid (xs.length ≤ (marked xs).length) := by rw [marked_length]; exact Nat.le_add_right _ _
      clear ho hbl hx0 hc1 hc2
      go_wp2_with fail
      go_region_held3 (fun w' => w'.cell? ⟨w.heap.size, 0, none⟩ = some (.slice (some ad) ll.length c) ∧ w'.cell? (ad.add k) = some (.slice Ak xs.length ck) ∧ w'.cell? (ad.add h2) = some (.slice Ah hs.length ch))
        (first | go_keep | exact ⟨pw_cell_below hb9.out HZ.out.1, pw_cell_below hb9.out HZ.out.2.1, pw_cell_below hb9.out HZ.out.2.2⟩)
        (first
          | (go_at_call 12; with_reducible refine (HIN.out _ ?hh).mono ?_; (case hh => repeat (first | exact hb9.out | exact Below.refl _ _ | apply below_drew | apply pw_below_drewN)); rintro e w9 ⟨rfl, hb9'⟩; have hb9 := Lib.hid hb9'; clear hb9')
          | (go_at_call 11; with_reducible refine (HRXX.out _ ?hh).mono ?_; (case hh => repeat (first | exact hb9.out | exact Below.refl _ _ | apply below_drew | apply pw_below_drewN)); rintro e w9 ⟨rfl, hb9'⟩; have hb9 := Lib.hid hb9'; clear hb9')
          | (go_at_call 11; with_reducible refine (HRHH.out _ ?hh).mono ?_; (case hh => repeat (first | exact hb9.out | exact Below.refl _ _ | apply below_drew | apply pw_below_drewN)); rintro e w9 ⟨rfl, hb9'⟩; have hb9 := Lib.hid hb9'; clear hb9')
          | (go_at_call 9; with_reducible refine (HSI.out _ ?hh).mono ?_; (case hh => repeat (first | exact hb9.out | exact Below.refl _ _ | apply below_drew | apply pw_below_drewN)); rintro e w9 ⟨rfl, hb9'⟩; have hb9 := Lib.hid hb9'; clear hb9')
          | (go_at_call 9; with_reducible refine (HSH.out _ ?hh).mono ?_; (case hh => repeat (first | exact hb9.out | exact Below.refl _ _ | apply below_drew | apply pw_below_drewN)); rintro e w9 ⟨rfl, hb9'⟩; have hb9 := Lib.hid hb9'; clear hb9'))
      go_wp2_with fail
      with_reducible refine (HOT.out _ ?hh).mono ?_
      case hh => repeat (first | exact hb9.out | exact Below.refl _ _ | apply below_drew | apply pw_below_drewN)
      rintro e w4 ⟨ys, D, cap2, base2, rfl, hyl, hy, ho4, hne4, hb4⟩
      have HY : Hid (Byt ys) := hy
      have HYL := Lib.hid hyl
      have HO4 := Lib.hid ho4
      have HNE4 := Lib.hid hne4
      have HB4 := Lib.hid hb4
      have HIT := Lib.hid (into_calls xs.length ys (marked xs) g cap D cap2 _ _ w4 hyl HLEN.out hbk (pw_own_below HO.out hb4) ho4 hne4)
      clear hyl hy ho4 hne4 hb4
      go_wp2_with fail
      refine HIT.out.mono ?_; rintro e w5 ⟨rfl, ho5, hg5⟩
      have HO5 := Lib.hid ho5
      have HG5 := Lib.hid hg5
      have HS5 : Hid (Calls Try.prog 9 #[.slice (some ⟨g, 0, none⟩) xs.length cap] w5 fun e w' => e = .returned (.int .u32 ((crc ys).toNat : Int)) ∧ Below w5.heap.size w5 w') := by
        have h := sum_reads ys (some ⟨g, 0, none⟩) cap w5 (own_reads ho5 (by simp)) HY.out
        rw [HYL.out] at h; exact h
      have HR5 : Hid (∀ W, Below w5.heap.size w5 W → Calls Try.prog 11 #[.slice D xs.length cap2] W fun e w' => e = .returned (.int .u32 ((crc ys).toNat : Int)) ∧ Below w5.heap.size w5 w') := fun W hW => by
        have h0 := own_other HO4.out HG5.out HNE4.out
        have h := rsum_reads ys D cap2 W (reads_keep (own_reads h0 (by simp)) hW) HY.out (by rw [HYL.out]; exact hbk)
        rw [HYL.out] at h
        exact h.mono fun e w' ⟨he, hb⟩ => ⟨he, hW.trans (hb.mono hW.size)⟩
      clear ho5 hg5
      go_wp2_with fail
      refine HS5.out.mono ?_; rintro e w6 ⟨rfl, hb6⟩
      have HB6 := Lib.hid hb6
      clear hb6
      go_wp2_with fail
      refine (HR5.out _ HB6.out).mono ?_; rintro e w7 ⟨rfl, hb7⟩
      have HB7 := Lib.hid hb7
      clear hb7
      have HFIN : Hid (Below W0.heap.size W0 w7) := by
        have s1 := HBK.out.size
        have s2 := HBL.out.size
        have s3 := HB4.out.size
        have h1 := HBK.out.trans (HBL.out.mono s1)
        have h2 := h1.trans (HB4.out.mono h1.size)
        have h3 := h2.grown HG5.out h2.size (by intro k hk; injection hk with hk; have := HGW.out; omega)
        exact h3.trans (HB7.out.mono h3.size)
      go_wp2_with fail
      go_roundw
      case rel => exact ⟨k + 1, by go_num, by omega, HFIN.out⟩
      case measure => simp [intOf]; omega
    · go_wp2_with fail
      go_ret
      exact ⟨rfl, HB0.out.trans (HBK.out.mono (by have := HSZ.out; omega))⟩
end Go.Proofs.Ytedbpagjhnkdbaa.CodeSums
