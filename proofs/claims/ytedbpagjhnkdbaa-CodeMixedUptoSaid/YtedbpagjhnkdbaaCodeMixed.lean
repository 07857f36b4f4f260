/- CodeMixed: the sum of a mixture of three texts by exclusive or is the sums' mixture. -/
import Derived.Test.YtedbpagjhnkdbaaMixed
import Derived.BigRegion
import Derived.Lib.SmallJoins
import Derived.Lib.QuietBelow
namespace Go.Proofs.Ytedbpagjhnkdbaa.CodeMixed
open Go.RowKit Go.Proofs.YtedbpagjhnkdbaaW.PrintWords Go.Proofs.Ytedbpagjhnkdbaa.Crc Go.Proofs.Ytedbpagjhnkdbaa.Bytes Go.Proofs.Ytedbpagjhnkdbaa.Opn
set_option linter.unusedVariables false
set_option linter.unusedSimpArgs false
abbrev KB := Kd.int .u8
theorem wrap64_nat (n : Nat) (h : n < 9223372036854775807) : wrap64 (n : Int) = (n : Int) := by unfold wrap64; omega
theorem wrapi_nat (n : Nat) (h : n < 9223372036854775807) : IntKind.i64.wrap (n : Int) = (n : Int) := by rw [IntKind.wrap_i64]; omega
theorem Calls.regrown_of' {P : Program} {f : FuncId} {args : Array Value} {w W : World} {v : Value}
    (h : Calls P f args W fun e w' => e = .returned v ∧ Below w.heap.size w w') : Calls P f args W fun e w'' => e = .returned v ∧ ∃ p : Regrown, w'' = Sort.grow (redrawn w p.d) p.os :=
  h.mono fun _ _ ⟨he, hb⟩ => ⟨he, regrown_of_below hb⟩
theorem take_reads {w : World} {A : Option Addr} {xs : List Int} (h : ReadsOf I 0 w A xs.length xs) (n : Nat) (hn : n ≤ xs.length) : ReadsOf I 0 w A (xs.take n).length (xs.take n) := by
  have := h.take_ n hn
  have hl : (xs.take n).length = n := by simp; omega
  rwa [hl]
theorem byt_take {xs : List Int} (h : Byt xs) (n : Nat) : Byt (xs.take n) := fun a ha => h a (List.mem_of_mem_take ha)
theorem getD_take (xs : List Int) (n k : Nat) (h : k < n) : (xs.take n).getD k 0 = xs.getD k 0 := by
  rw [List.getD_eq_getElem?_getD, List.getD_eq_getElem?_getD, List.getElem?_take, if_pos h]
set_option maxHeartbeats 6400000 in
set_option maxRecDepth 100000 in
theorem walk (ll : List (List Int)) (A : Option Addr) (c : Nat) (w : World) (hr : (Kd.slice 5 KB).C w A ll.length ll) (hv : ∀ l, l ∈ ll → Byt l) (hb : ∀ l, l ∈ ll → l.length ≤ 1048576) (hll : ll.length ≤ 1048576) :
    Calls Try.prog 5 #[.agg #[.slice A ll.length c]] w fun e w' => e = .returned (.bool true) ∧ Below w.heap.size w w' := by
  have hn := Kd.C_max hr
  have HR := Lib.hid hr
  have HV := Lib.hid hv
  have HB := Lib.hid hb
  have HB0 : Hid (Below w.heap.size w (w.alloc (.cells #[.slice A ll.length c] 24))) := (Below.refl _ _).alloc (Nat.le_refl _) _
  have hbox0 : (w.alloc (.cells #[.slice A ll.length c] 24)).cell? ⟨w.heap.size, 0, none⟩ = some (.slice A ll.length c) := by go_simp
  have hcv : (convert 27 27 (.slice (some ⟨w.heap.size + 1, 0, none⟩) 2 2)).run Try.prog ((w.alloc (.cells #[.slice A ll.length c] 24)).alloc (.cells #[.int .u8 107, .int .u8 55] 5)) = .ok (.slice (some ⟨w.heap.size + 1, 0, none⟩) 2 2) ((w.alloc (.cells #[.slice A ll.length c] 24)).alloc (.cells #[.int .u8 107, .int .u8 55] 5 (2, 3))) := Go.Joins.run_convert_bytes_const_at (P := Try.prog) (w.alloc (.cells #[.slice A ll.length c] 24)) 27 5 #[.int .u8 107, .int .u8 55] 2 2 (w.heap.size + 1) (by simp) Try.underlying27 Try.underlying5
  obtain ⟨W0, hW0⟩ : ∃ W0, W0 = w.alloc (.cells #[.slice A ll.length c] 24) := ⟨_, rfl⟩
  have hsz : W0.heap.size = w.heap.size + 1 := by rw [hW0]; simp
  rw [← hW0] at hbox0 HB0
  have HX0 := Lib.hid hbox0
  have HW0 := Lib.hid hW0
  have HSZ := Lib.hid hsz
  clear hW0 hsz hbox0 hr hv hb
  have S7 : Hid (Calls Try.prog 9 #[.slice (some ⟨w.heap.size + 1, 0, none⟩) 2 2] (W0.alloc (.cells #[.int .u8 107, .int .u8 55] 5 (2, 3))) fun e w' => e = .returned (.int .u32 2137851292) ∧ Below W0.heap.size W0 w') := by
    rw [← HSZ.out]
    have h := sum_walk [107, 55] (some ⟨W0.heap.size, 0, none⟩) 2 (W0.alloc (.cells #[.int .u8 107, .int .u8 55] 5 (2, 3))) (by simp) (fun k hk => ⟨_, rfl, by
      rw [add_plain, World.cell?_alloc_mark]
      have : k = 0 ∨ k = 1 := by simp at hk; omega
      rcases this with rfl | rfl <;> rfl⟩) (by intro a ha; simp at ha; omega)
    rw [crc_k7] at h
    exact h.mono fun e w' ⟨he, hb⟩ => ⟨he, ((Below.refl W0.heap.size W0).alloc (Nat.le_refl _) _).trans (hb.mono (by simp))⟩
  go_enter Try.func5, Try.ntmps5
  go_wp2_with fail
  rw [← HW0.out]
  go_wp2_with fail
  refine S7.out.mono ?_; rintro e w1 ⟨rfl, hb1⟩
  have HB1 := Lib.hid hb1
  clear hb1
  go_wp2_with fail
  go_loopw [3] (fun i wr => ∃ k : Nat, i = .int .i64 k ∧ k ≤ ll.length ∧ Below W0.heap.size W0 wr) (fun i _ => ll.length - (intOf i).toNat)
  case atStart => exact ⟨0, rfl, by omega, HB1.out⟩
  case round =>
    obtain ⟨k, rfl, hk, hbk⟩ := hrel
    have HBK := Lib.hid hbk
    have hx0 : wr.cell? ⟨w.heap.size, 0, none⟩ = some (.slice A ll.length c) := (hbk.cell (p := ⟨w.heap.size, 0, none⟩) (by have := HSZ.out; simp; omega)).trans HX0.out
    clear hbk
    by_cases hlt : k + 2 < ll.length
    · have HRK := Lib.hid (Kd.C_below (Kd.C_below HR.out HB0.out) HBK.out)
      obtain ⟨ad, A1, k1, rfl, hc1, hk1, hC1⟩ := at_list HRK.out k (by omega)
      obtain ⟨ad', A2, k2, hadd, hc2, hk2, hC2⟩ := at_list HRK.out (k + 1) (by omega)
      injection hadd with hadd
      subst hadd
      obtain ⟨ad', A3, k3, hadd, hc3, hk3, hC3⟩ := at_list HRK.out (k + 2) hlt
      injection hadd with hadd
      subst hadd
      have hvx := HV.out _ (List.getElem_mem (show k < ll.length by omega))
      have hvy := HV.out _ (List.getElem_mem (show k + 1 < ll.length by omega))
      have hvz := HV.out _ (List.getElem_mem hlt)
      have hbx := HB.out _ (List.getElem_mem (show k < ll.length by omega))
      have hby := HB.out _ (List.getElem_mem (show k + 1 < ll.length by omega))
      have hbz := HB.out _ (List.getElem_mem hlt)
      obtain ⟨xs, hxs⟩ : ∃ xs, xs = ll[k]'(by omega) := ⟨_, rfl⟩
      obtain ⟨ys, hys⟩ : ∃ ys, ys = ll[k + 1]'(by omega) := ⟨_, rfl⟩
      obtain ⟨zs, hzs⟩ : ∃ zs, zs = ll[k + 2]'(by omega) := ⟨_, rfl⟩
      rw [← hxs] at hc1 hC1 hvx hbx hk1
      rw [← hys] at hc2 hC2 hvy hby hk2
      rw [← hzs] at hc3 hC3 hvz hbz hk3
      have HRX := Lib.hid (Kd.reads_of_C (enc := I) (d := (0 : Int)) (h1 := fun _ => rfl) hC1)
      have HRY := Lib.hid (Kd.reads_of_C (enc := I) (d := (0 : Int)) (h1 := fun _ => rfl) hC2)
      have HRZ := Lib.hid (Kd.reads_of_C (enc := I) (d := (0 : Int)) (h1 := fun _ => rfl) hC3)
      have HVX : Hid (Byt xs) := hvx
      have HVY : Hid (Byt ys) := hvy
      have HVZ : Hid (Byt zs) := hvz
      have b1 : (k : Int) + 2 < (ll.length : Int) := by omega
      have b2 : (k : Int) + 1 < (ll.length : Int) := by omega
      have b3 : (k : Int) < (ll.length : Int) := by omega
      have t1 : ((k : Int) + 1).toNat = k + 1 := by omega
      have t2 : ((k : Int) + 2).toNat = k + 2 := by omega
      obtain ⟨wo, rfl⟩ : ∃ wo : World, wo = wr := ⟨_, rfl⟩
      have e2 : ad.add (k + 1) = ⟨ad.block, ad.off + (k + 1), none⟩ := by unfold Addr.add; split <;> simp_all
      have e3 : ad.add (k + 2) = ⟨ad.block, ad.off + (k + 2), none⟩ := by unfold Addr.add; split <;> simp_all
      rw [e2] at hc2
      rw [e3] at hc3
      clear hxs hys hzs hC1 hC2 hC3 hvx hvy hvz e2 e3
      by_cases h1 : ys.length < xs.length
      · have d1 :  ((ys.length : Int) < (xs.length : Int)) := by omega
        by_cases h2 : zs.length < ys.length
        · have d2 :  ((zs.length : Int) < (ys.length : Int)) := by omega
          have n1 : zs.length ≤ xs.length := by omega
          have n2 : zs.length ≤ ys.length := by omega
          have n3 : zs.length ≤ zs.length := by omega
          have nb : zs.length ≤ 1048576 := by omega
          have hmk := print_make_of (P := Try.prog) 27 5 (.int .u8 0) 1 Try.underlying27 info5 rfl (by omega) zs.length (by omega)
          have HLX : Hid ((xs.take zs.length).length = zs.length) := by rw [List.length_take]; exact Nat.min_eq_left n1
          have HLY : Hid ((ys.take zs.length).length = zs.length) := by rw [List.length_take]; exact Nat.min_eq_left n2
          have HLZ : Hid ((zs.take zs.length).length = zs.length) := by rw [List.length_take]; exact Nat.min_eq_left n3
          obtain ⟨ds, hds⟩ : ∃ ds, ds = mix3 (xs.take zs.length) (ys.take zs.length) (zs.take zs.length) := ⟨_, rfl⟩
          have HDS := Lib.hid hds
          have HDL : Hid (ds.length = zs.length) := by rw [hds, mix3_length _ _ _ (HLY.out.trans HLX.out.symm) (HLZ.out.trans HLX.out.symm)]; exact HLX.out
          have HDG : Hid (∀ j, j < zs.length → ds.getD j 0 = x3 (xs.getD j 0) (ys.getD j 0) (zs.getD j 0)) := fun j hj => by
            rw [hds, mix3_get _ _ _ (HLY.out.trans HLX.out.symm) (HLZ.out.trans HLX.out.symm) j (by rw [HLX.out]; exact hj), getD_take xs _ _ hj, getD_take ys _ _ hj, getD_take zs _ _ hj]
          have HOD := Lib.hid (own_made_of (enc := I) (d := (0 : Int)) wo W0.heap.size 5 zs.length HBK.out.size (by omega))
          have HBD : Hid (Below wo.heap.size wo (wo.alloc (.cells (madeCells #[Value.int .u8 0] zs.length) 5))) := (Below.refl _ _).alloc (Nat.le_refl _) _
          clear hds
          go_wp2_with fail
          go_loopw [9] (fun i wr => ∃ j : Nat, i = .int .i64 j ∧ j ≤ zs.length ∧ wr.ownsRow W0.heap.size 5 1 (.slice (some ⟨wo.heap.size, 0, none⟩) zs.length zs.length) zs.length (encs I (mix ds (List.replicate zs.length 0) j)) ∧ Below wo.heap.size wo wr) (fun i _ => zs.length - (intOf i).toNat)
          case atStart => exact ⟨0, rfl, by omega, by simpa [mix] using HOD.out, HBD.out⟩
          case round =>
            obtain ⟨j, rfl, hj, hoj, hbj⟩ := hrel
            have HOJ := Lib.hid hoj
            have HBJ := Lib.hid hbj
            by_cases hjn : j < zs.length
            · obtain ⟨a1, rfl, x1⟩ := reads_at HRX.out j (by omega)
              obtain ⟨a2, rfl, x2⟩ := reads_at HRY.out j (by omega)
              obtain ⟨a3, rfl, x3'⟩ := reads_at HRZ.out j (by omega)
              have y1 := pw_cell_below hbj x1
              have y2 := pw_cell_below hbj x2
              have y3 := pw_cell_below hbj x3'
              have hat := own_at_of (d := 0) hoj (j : Int) (by omega) (by omega)
              rw [Int.toNat_natCast] at hat
              have f1 := hat.1
              have f2 := hat.2
              have hst := own_store_of hoj (j : Int) (ds.getD j 0)
              rw [Int.toNat_natCast, mix_set ds _ j (by rw [HDL.out]; exact hjn) (by simpa using hjn), HDG.out j hjn] at hst
              unfold x3 at hst
              obtain ⟨vx, hvx'⟩ : ∃ v : Int, v = xs.getD j 0 := ⟨_, rfl⟩
              obtain ⟨vy, hvy'⟩ : ∃ v : Int, v = ys.getD j 0 := ⟨_, rfl⟩
              obtain ⟨vz, hvz'⟩ : ∃ v : Int, v = zs.getD j 0 := ⟨_, rfl⟩
              rw [← hvx', ← hvy', ← hvz'] at hst
              rw [← hvx'] at y1
              rw [← hvy'] at y2
              rw [← hvz'] at y3
              have HST := Lib.hid hst
              have i1 : (0 : Int) ≤ (j : Int) := by omega
              have i2 : (j : Int) < (xs.length : Int) := by omega
              have i3 : (j : Int) < (ys.length : Int) := by omega
              have i4 : (j : Int) < (zs.length : Int) := by omega
              clear hoj hbj hat hst x1 x2 x3' hvx' hvy' hvz'
              go_wp2_with fail
              go_region
              go_wp2_with fail
              go_roundw
              case rel => exact ⟨j + 1, by go_num, by omega, HST.out.1, by first | exact (HBJ.out.setCell (Nat.le_refl _) _).drew | exact HBJ.out.setCell (Nat.le_refl _) _⟩
              case measure => simp [intOf]; omega
            · have hjn' : j = zs.length := by omega
              have HOF : Hid (wr.ownsRow W0.heap.size 5 1 (.slice (some ⟨wo.heap.size, 0, none⟩) zs.length zs.length) zs.length (encs I ds)) := by
                have h := hoj
                rw [hjn', mix, List.take_of_length_le (by rw [HDL.out]; exact Nat.le_refl _), List.drop_of_length_le (by simp), List.append_nil] at h
                exact h
              obtain ⟨i0, hi0, _, _, _⟩ := info_parts info5
              have q1 : ∀ W : World, (Instr.slice 27 (.slice A1 xs.length k1) none (some (.int .i64 (zs.length : Int))) none).run Try.prog W = .ok (.slice A1 zs.length k1) W := fun W => by
                have h := cut_to (P := Try.prog) 27 5 .i64 Try.underlying27 hi0 A1 xs.length k1 (zs.length : Int) (by omega) (by omega) hk1 W
                rwa [Int.toNat_natCast] at h
              have q2 : ∀ W : World, (Instr.slice 27 (.slice A2 ys.length k2) none (some (.int .i64 (zs.length : Int))) none).run Try.prog W = .ok (.slice A2 zs.length k2) W := fun W => by
                have h := cut_to (P := Try.prog) 27 5 .i64 Try.underlying27 hi0 A2 ys.length k2 (zs.length : Int) (by omega) (by omega) hk2 W
                rwa [Int.toNat_natCast] at h
              have q3 : ∀ W : World, (Instr.slice 27 (.slice A3 zs.length k3) none (some (.int .i64 (zs.length : Int))) none).run Try.prog W = .ok (.slice A3 zs.length k3) W := fun W => by
                have h := cut_to (P := Try.prog) 27 5 .i64 Try.underlying27 hi0 A3 zs.length k3 (zs.length : Int) (by omega) (by omega) hk3 W
                rwa [Int.toNat_natCast] at h
              have HZ := Lib.hid (pw_cell_below hbj hx0)
              have hz0 := pw_cell_below hbj hx0
              have HV4 := crc_mix_val (xs.take zs.length) (ys.take zs.length) (zs.take zs.length) (HLY.out.trans HLX.out.symm) (HLZ.out.trans HLX.out.symm) (byt_take HVX.out _) (byt_take HVY.out _) (byt_take HVZ.out _)
              rw [← HDS.out] at HV4
              obtain ⟨X, hX⟩ : ∃ X : Int, X = ((crc (xs.take zs.length)).toNat : Int) := ⟨_, rfl⟩
              obtain ⟨Y, hY⟩ : ∃ Y : Int, Y = ((crc (ys.take zs.length)).toNat : Int) := ⟨_, rfl⟩
              obtain ⟨Z, hZ⟩ : ∃ Z : Int, Z = ((crc (zs.take zs.length)).toNat : Int) := ⟨_, rfl⟩
              obtain ⟨D, hD⟩ : ∃ D : Int, D = ((crc ds).toNat : Int) := ⟨_, rfl⟩
              rw [← hX, ← hY, ← hZ, ← hD] at HV4
              have HSD : Hid (∀ W, Below wr.heap.size wr W → Calls Try.prog 9 #[.slice (some ⟨wo.heap.size, 0, none⟩) zs.length zs.length] W fun e w' => e = .returned (.int .u32 D) ∧ Below wr.heap.size wr w') := fun W hW => by
                have h := sum_reads ds (some ⟨wo.heap.size, 0, none⟩) zs.length W (own_reads (pw_own_below HOF.out hW) (by simp)) (by
                  rw [HDS.out]; intro a ha
                  obtain ⟨k, hk, rfl⟩ := List.mem_iff_getElem.1 ha
                  have hl : k < zs.length := by rw [← HDS.out, HDL.out] at hk; exact hk
                  have h2 := HDG.out k hl
                  rw [HDS.out, List.getD_eq_getElem?_getD, List.getElem?_eq_getElem hk] at h2
                  simp only [Option.getD_some] at h2
                  rw [h2]; exact x3_byte _ _ _)
                rw [HDL.out, ← hD] at h
                exact h.mono fun e w' ⟨he, hb⟩ => ⟨he, hW.trans (hb.mono hW.size)⟩
              have HSX : Hid (∀ W, Below wr.heap.size wr W → Calls Try.prog 9 #[.slice A1 zs.length k1] W fun e w' => e = .returned (.int .u32 X) ∧ Below wr.heap.size wr w') := fun W hW => by
                have h := sum_reads (xs.take zs.length) A1 k1 W (take_reads (reads_keep HRX.out (HBJ.out.trans (hW.mono HBJ.out.size))) zs.length n1) (byt_take HVX.out _)
                rw [HLX.out, ← hX] at h
                exact h.mono fun e w' ⟨he, hb⟩ => ⟨he, hW.trans (hb.mono hW.size)⟩
              have HSY : Hid (∀ W, Below wr.heap.size wr W → Calls Try.prog 9 #[.slice A2 zs.length k2] W fun e w' => e = .returned (.int .u32 Y) ∧ Below wr.heap.size wr w') := fun W hW => by
                have h := sum_reads (ys.take zs.length) A2 k2 W (take_reads (reads_keep HRY.out (HBJ.out.trans (hW.mono HBJ.out.size))) zs.length n2) (byt_take HVY.out _)
                rw [HLY.out, ← hY] at h
                exact h.mono fun e w' ⟨he, hb⟩ => ⟨he, hW.trans (hb.mono hW.size)⟩
              have HSZ' : Hid (∀ W, Below wr.heap.size wr W → Calls Try.prog 9 #[.slice A3 zs.length k3] W fun e w' => e = .returned (.int .u32 Z) ∧ Below wr.heap.size wr w') := fun W hW => by
                have h := sum_reads (zs.take zs.length) A3 k3 W (take_reads (reads_keep HRZ.out (HBJ.out.trans (hW.mono HBJ.out.size))) zs.length n3) (byt_take HVZ.out _)
                rw [HLZ.out, ← hZ] at h
                exact h.mono fun e w' ⟨he, hb⟩ => ⟨he, hW.trans (hb.mono hW.size)⟩
              clear hoj hbj hjn' hi0 hX hY hZ hD hx0 hmk
              go_wp2_with fail
              have cD : ∀ d os, Calls Try.prog 9 #[.slice (some ⟨wo.heap.size, 0, none⟩) zs.length zs.length] (Sort.grow (redrawn wr d) os) fun e w'' => e = .returned (.int .u32 D) ∧ ∃ p : Regrown, w'' = Sort.grow (redrawn wr p.d) p.os := fun d os => Calls.regrown_of' (HSD.out _ (below_regrown wr d os))
              have cX : ∀ d os, Calls Try.prog 9 #[.slice A1 zs.length k1] (Sort.grow (redrawn wr d) os) fun e w'' => e = .returned (.int .u32 X) ∧ ∃ p : Regrown, w'' = Sort.grow (redrawn wr p.d) p.os := fun d os => Calls.regrown_of' (HSX.out _ (below_regrown wr d os))
              have cY : ∀ d os, Calls Try.prog 9 #[.slice A2 zs.length k2] (Sort.grow (redrawn wr d) os) fun e w'' => e = .returned (.int .u32 Y) ∧ ∃ p : Regrown, w'' = Sort.grow (redrawn wr p.d) p.os := fun d os => Calls.regrown_of' (HSY.out _ (below_regrown wr d os))
              have cZ : ∀ d os, Calls Try.prog 9 #[.slice A3 zs.length k3] (Sort.grow (redrawn wr d) os) fun e w'' => e = .returned (.int .u32 Z) ∧ ∃ p : Regrown, w'' = Sort.grow (redrawn wr p.d) p.os := fun d os => Calls.regrown_of' (HSZ'.out _ (below_regrown wr d os))
              refine wp_region_quiet_below (by kernel_rfl) (by kernel_rfl) ?_
              repeat (quiet_step (first | with_reducible exact cD _ _ | with_reducible exact cX _ _ | with_reducible exact cY _ _ | with_reducible exact cZ _ _))
              refine wpQuiet_nil ?_
              intro _ hw'
              obtain ⟨⟨dq, osq⟩, hw''⟩ := hw'
              subst hw''
              go_wp2_with fail
              go_roundw
              case rel => exact ⟨k + 1, by go_num, by omega, HBK.out.trans ((HBJ.out.trans ((below_regrown wr dq osq).mono HBJ.out.size)).mono HBK.out.size)⟩
              case measure => simp [intOf]; omega
        · have d2 : ¬ ((zs.length : Int) < (ys.length : Int)) := by omega
          have n1 : ys.length ≤ xs.length := by omega
          have n2 : ys.length ≤ ys.length := by omega
          have n3 : ys.length ≤ zs.length := by omega
          have nb : ys.length ≤ 1048576 := by omega
          have hmk := print_make_of (P := Try.prog) 27 5 (.int .u8 0) 1 Try.underlying27 info5 rfl (by omega) ys.length (by omega)
          have HLX : Hid ((xs.take ys.length).length = ys.length) := by rw [List.length_take]; exact Nat.min_eq_left n1
          have HLY : Hid ((ys.take ys.length).length = ys.length) := by rw [List.length_take]; exact Nat.min_eq_left n2
          have HLZ : Hid ((zs.take ys.length).length = ys.length) := by rw [List.length_take]; exact Nat.min_eq_left n3
          obtain ⟨ds, hds⟩ : ∃ ds, ds = mix3 (xs.take ys.length) (ys.take ys.length) (zs.take ys.length) := ⟨_, rfl⟩
          have HDS := Lib.hid hds
          have HDL : Hid (ds.length = ys.length) := by rw [hds, mix3_length _ _ _ (HLY.out.trans HLX.out.symm) (HLZ.out.trans HLX.out.symm)]; exact HLX.out
          have HDG : Hid (∀ j, j < ys.length → ds.getD j 0 = x3 (xs.getD j 0) (ys.getD j 0) (zs.getD j 0)) := fun j hj => by
            rw [hds, mix3_get _ _ _ (HLY.out.trans HLX.out.symm) (HLZ.out.trans HLX.out.symm) j (by rw [HLX.out]; exact hj), getD_take xs _ _ hj, getD_take ys _ _ hj, getD_take zs _ _ hj]
          have HOD := Lib.hid (own_made_of (enc := I) (d := (0 : Int)) wo W0.heap.size 5 ys.length HBK.out.size (by omega))
          have HBD : Hid (Below wo.heap.size wo (wo.alloc (.cells (madeCells #[Value.int .u8 0] ys.length) 5))) := (Below.refl _ _).alloc (Nat.le_refl _) _
          clear hds
          go_wp2_with fail
          go_loopw [9] (fun i wr => ∃ j : Nat, i = .int .i64 j ∧ j ≤ ys.length ∧ wr.ownsRow W0.heap.size 5 1 (.slice (some ⟨wo.heap.size, 0, none⟩) ys.length ys.length) ys.length (encs I (mix ds (List.replicate ys.length 0) j)) ∧ Below wo.heap.size wo wr) (fun i _ => ys.length - (intOf i).toNat)
          case atStart => exact ⟨0, rfl, by omega, by simpa [mix] using HOD.out, HBD.out⟩
          case round =>
            obtain ⟨j, rfl, hj, hoj, hbj⟩ := hrel
            have HOJ := Lib.hid hoj
            have HBJ := Lib.hid hbj
            by_cases hjn : j < ys.length
            · obtain ⟨a1, rfl, x1⟩ := reads_at HRX.out j (by omega)
              obtain ⟨a2, rfl, x2⟩ := reads_at HRY.out j (by omega)
              obtain ⟨a3, rfl, x3'⟩ := reads_at HRZ.out j (by omega)
              have y1 := pw_cell_below hbj x1
              have y2 := pw_cell_below hbj x2
              have y3 := pw_cell_below hbj x3'
              have hat := own_at_of (d := 0) hoj (j : Int) (by omega) (by omega)
              rw [Int.toNat_natCast] at hat
              have f1 := hat.1
              have f2 := hat.2
              have hst := own_store_of hoj (j : Int) (ds.getD j 0)
              rw [Int.toNat_natCast, mix_set ds _ j (by rw [HDL.out]; exact hjn) (by simpa using hjn), HDG.out j hjn] at hst
              unfold x3 at hst
              obtain ⟨vx, hvx'⟩ : ∃ v : Int, v = xs.getD j 0 := ⟨_, rfl⟩
              obtain ⟨vy, hvy'⟩ : ∃ v : Int, v = ys.getD j 0 := ⟨_, rfl⟩
              obtain ⟨vz, hvz'⟩ : ∃ v : Int, v = zs.getD j 0 := ⟨_, rfl⟩
              rw [← hvx', ← hvy', ← hvz'] at hst
              rw [← hvx'] at y1
              rw [← hvy'] at y2
              rw [← hvz'] at y3
              have HST := Lib.hid hst
              have i1 : (0 : Int) ≤ (j : Int) := by omega
              have i2 : (j : Int) < (xs.length : Int) := by omega
              have i3 : (j : Int) < (ys.length : Int) := by omega
              have i4 : (j : Int) < (zs.length : Int) := by omega
              clear hoj hbj hat hst x1 x2 x3' hvx' hvy' hvz'
              go_wp2_with fail
              go_region
              go_wp2_with fail
              go_roundw
              case rel => exact ⟨j + 1, by go_num, by omega, HST.out.1, by first | exact (HBJ.out.setCell (Nat.le_refl _) _).drew | exact HBJ.out.setCell (Nat.le_refl _) _⟩
              case measure => simp [intOf]; omega
            · have hjn' : j = ys.length := by omega
              have HOF : Hid (wr.ownsRow W0.heap.size 5 1 (.slice (some ⟨wo.heap.size, 0, none⟩) ys.length ys.length) ys.length (encs I ds)) := by
                have h := hoj
                rw [hjn', mix, List.take_of_length_le (by rw [HDL.out]; exact Nat.le_refl _), List.drop_of_length_le (by simp), List.append_nil] at h
                exact h
              obtain ⟨i0, hi0, _, _, _⟩ := info_parts info5
              have q1 : ∀ W : World, (Instr.slice 27 (.slice A1 xs.length k1) none (some (.int .i64 (ys.length : Int))) none).run Try.prog W = .ok (.slice A1 ys.length k1) W := fun W => by
                have h := cut_to (P := Try.prog) 27 5 .i64 Try.underlying27 hi0 A1 xs.length k1 (ys.length : Int) (by omega) (by omega) hk1 W
                rwa [Int.toNat_natCast] at h
              have q2 : ∀ W : World, (Instr.slice 27 (.slice A2 ys.length k2) none (some (.int .i64 (ys.length : Int))) none).run Try.prog W = .ok (.slice A2 ys.length k2) W := fun W => by
                have h := cut_to (P := Try.prog) 27 5 .i64 Try.underlying27 hi0 A2 ys.length k2 (ys.length : Int) (by omega) (by omega) hk2 W
                rwa [Int.toNat_natCast] at h
              have q3 : ∀ W : World, (Instr.slice 27 (.slice A3 zs.length k3) none (some (.int .i64 (ys.length : Int))) none).run Try.prog W = .ok (.slice A3 ys.length k3) W := fun W => by
                have h := cut_to (P := Try.prog) 27 5 .i64 Try.underlying27 hi0 A3 zs.length k3 (ys.length : Int) (by omega) (by omega) hk3 W
                rwa [Int.toNat_natCast] at h
              have HZ := Lib.hid (pw_cell_below hbj hx0)
              have hz0 := pw_cell_below hbj hx0
              have HV4 := crc_mix_val (xs.take ys.length) (ys.take ys.length) (zs.take ys.length) (HLY.out.trans HLX.out.symm) (HLZ.out.trans HLX.out.symm) (byt_take HVX.out _) (byt_take HVY.out _) (byt_take HVZ.out _)
              rw [← HDS.out] at HV4
              obtain ⟨X, hX⟩ : ∃ X : Int, X = ((crc (xs.take ys.length)).toNat : Int) := ⟨_, rfl⟩
              obtain ⟨Y, hY⟩ : ∃ Y : Int, Y = ((crc (ys.take ys.length)).toNat : Int) := ⟨_, rfl⟩
              obtain ⟨Z, hZ⟩ : ∃ Z : Int, Z = ((crc (zs.take ys.length)).toNat : Int) := ⟨_, rfl⟩
              obtain ⟨D, hD⟩ : ∃ D : Int, D = ((crc ds).toNat : Int) := ⟨_, rfl⟩
              rw [← hX, ← hY, ← hZ, ← hD] at HV4
              have HSD : Hid (∀ W, Below wr.heap.size wr W → Calls Try.prog 9 #[.slice (some ⟨wo.heap.size, 0, none⟩) ys.length ys.length] W fun e w' => e = .returned (.int .u32 D) ∧ Below wr.heap.size wr w') := fun W hW => by
                have h := sum_reads ds (some ⟨wo.heap.size, 0, none⟩) ys.length W (own_reads (pw_own_below HOF.out hW) (by simp)) (by
                  rw [HDS.out]; intro a ha
                  obtain ⟨k, hk, rfl⟩ := List.mem_iff_getElem.1 ha
                  have hl : k < ys.length := by rw [← HDS.out, HDL.out] at hk; exact hk
                  have h2 := HDG.out k hl
                  rw [HDS.out, List.getD_eq_getElem?_getD, List.getElem?_eq_getElem hk] at h2
                  simp only [Option.getD_some] at h2
                  rw [h2]; exact x3_byte _ _ _)
                rw [HDL.out, ← hD] at h
                exact h.mono fun e w' ⟨he, hb⟩ => ⟨he, hW.trans (hb.mono hW.size)⟩
              have HSX : Hid (∀ W, Below wr.heap.size wr W → Calls Try.prog 9 #[.slice A1 ys.length k1] W fun e w' => e = .returned (.int .u32 X) ∧ Below wr.heap.size wr w') := fun W hW => by
                have h := sum_reads (xs.take ys.length) A1 k1 W (take_reads (reads_keep HRX.out (HBJ.out.trans (hW.mono HBJ.out.size))) ys.length n1) (byt_take HVX.out _)
                rw [HLX.out, ← hX] at h
                exact h.mono fun e w' ⟨he, hb⟩ => ⟨he, hW.trans (hb.mono hW.size)⟩
              have HSY : Hid (∀ W, Below wr.heap.size wr W → Calls Try.prog 9 #[.slice A2 ys.length k2] W fun e w' => e = .returned (.int .u32 Y) ∧ Below wr.heap.size wr w') := fun W hW => by
                have h := sum_reads (ys.take ys.length) A2 k2 W (take_reads (reads_keep HRY.out (HBJ.out.trans (hW.mono HBJ.out.size))) ys.length n2) (byt_take HVY.out _)
                rw [HLY.out, ← hY] at h
                exact h.mono fun e w' ⟨he, hb⟩ => ⟨he, hW.trans (hb.mono hW.size)⟩
              have HSZ' : Hid (∀ W, Below wr.heap.size wr W → Calls Try.prog 9 #[.slice A3 ys.length k3] W fun e w' => e = .returned (.int .u32 Z) ∧ Below wr.heap.size wr w') := fun W hW => by
                have h := sum_reads (zs.take ys.length) A3 k3 W (take_reads (reads_keep HRZ.out (HBJ.out.trans (hW.mono HBJ.out.size))) ys.length n3) (byt_take HVZ.out _)
                rw [HLZ.out, ← hZ] at h
                exact h.mono fun e w' ⟨he, hb⟩ => ⟨he, hW.trans (hb.mono hW.size)⟩
              clear hoj hbj hjn' hi0 hX hY hZ hD hx0 hmk
              go_wp2_with fail
              have cD : ∀ d os, Calls Try.prog 9 #[.slice (some ⟨wo.heap.size, 0, none⟩) ys.length ys.length] (Sort.grow (redrawn wr d) os) fun e w'' => e = .returned (.int .u32 D) ∧ ∃ p : Regrown, w'' = Sort.grow (redrawn wr p.d) p.os := fun d os => Calls.regrown_of' (HSD.out _ (below_regrown wr d os))
              have cX : ∀ d os, Calls Try.prog 9 #[.slice A1 ys.length k1] (Sort.grow (redrawn wr d) os) fun e w'' => e = .returned (.int .u32 X) ∧ ∃ p : Regrown, w'' = Sort.grow (redrawn wr p.d) p.os := fun d os => Calls.regrown_of' (HSX.out _ (below_regrown wr d os))
              have cY : ∀ d os, Calls Try.prog 9 #[.slice A2 ys.length k2] (Sort.grow (redrawn wr d) os) fun e w'' => e = .returned (.int .u32 Y) ∧ ∃ p : Regrown, w'' = Sort.grow (redrawn wr p.d) p.os := fun d os => Calls.regrown_of' (HSY.out _ (below_regrown wr d os))
              have cZ : ∀ d os, Calls Try.prog 9 #[.slice A3 ys.length k3] (Sort.grow (redrawn wr d) os) fun e w'' => e = .returned (.int .u32 Z) ∧ ∃ p : Regrown, w'' = Sort.grow (redrawn wr p.d) p.os := fun d os => Calls.regrown_of' (HSZ'.out _ (below_regrown wr d os))
              refine wp_region_quiet_below (by kernel_rfl) (by kernel_rfl) ?_
              repeat (quiet_step (first | with_reducible exact cD _ _ | with_reducible exact cX _ _ | with_reducible exact cY _ _ | with_reducible exact cZ _ _))
              refine wpQuiet_nil ?_
              intro _ hw'
              obtain ⟨⟨dq, osq⟩, hw''⟩ := hw'
              subst hw''
              go_wp2_with fail
              go_roundw
              case rel => exact ⟨k + 1, by go_num, by omega, HBK.out.trans ((HBJ.out.trans ((below_regrown wr dq osq).mono HBJ.out.size)).mono HBK.out.size)⟩
              case measure => simp [intOf]; omega
      · have d1 : ¬ ((ys.length : Int) < (xs.length : Int)) := by omega
        by_cases h2 : zs.length < xs.length
        · have d2 :  ((zs.length : Int) < (xs.length : Int)) := by omega
          have n1 : zs.length ≤ xs.length := by omega
          have n2 : zs.length ≤ ys.length := by omega
          have n3 : zs.length ≤ zs.length := by omega
          have nb : zs.length ≤ 1048576 := by omega
          have hmk := print_make_of (P := Try.prog) 27 5 (.int .u8 0) 1 Try.underlying27 info5 rfl (by omega) zs.length (by omega)
          have HLX : Hid ((xs.take zs.length).length = zs.length) := by rw [List.length_take]; exact Nat.min_eq_left n1
          have HLY : Hid ((ys.take zs.length).length = zs.length) := by rw [List.length_take]; exact Nat.min_eq_left n2
          have HLZ : Hid ((zs.take zs.length).length = zs.length) := by rw [List.length_take]; exact Nat.min_eq_left n3
          obtain ⟨ds, hds⟩ : ∃ ds, ds = mix3 (xs.take zs.length) (ys.take zs.length) (zs.take zs.length) := ⟨_, rfl⟩
          have HDS := Lib.hid hds
          have HDL : Hid (ds.length = zs.length) := by rw [hds, mix3_length _ _ _ (HLY.out.trans HLX.out.symm) (HLZ.out.trans HLX.out.symm)]; exact HLX.out
          have HDG : Hid (∀ j, j < zs.length → ds.getD j 0 = x3 (xs.getD j 0) (ys.getD j 0) (zs.getD j 0)) := fun j hj => by
            rw [hds, mix3_get _ _ _ (HLY.out.trans HLX.out.symm) (HLZ.out.trans HLX.out.symm) j (by rw [HLX.out]; exact hj), getD_take xs _ _ hj, getD_take ys _ _ hj, getD_take zs _ _ hj]
          have HOD := Lib.hid (own_made_of (enc := I) (d := (0 : Int)) wo W0.heap.size 5 zs.length HBK.out.size (by omega))
          have HBD : Hid (Below wo.heap.size wo (wo.alloc (.cells (madeCells #[Value.int .u8 0] zs.length) 5))) := (Below.refl _ _).alloc (Nat.le_refl _) _
          clear hds
          go_wp2_with fail
          go_loopw [9] (fun i wr => ∃ j : Nat, i = .int .i64 j ∧ j ≤ zs.length ∧ wr.ownsRow W0.heap.size 5 1 (.slice (some ⟨wo.heap.size, 0, none⟩) zs.length zs.length) zs.length (encs I (mix ds (List.replicate zs.length 0) j)) ∧ Below wo.heap.size wo wr) (fun i _ => zs.length - (intOf i).toNat)
          case atStart => exact ⟨0, rfl, by omega, by simpa [mix] using HOD.out, HBD.out⟩
          case round =>
            obtain ⟨j, rfl, hj, hoj, hbj⟩ := hrel
            have HOJ := Lib.hid hoj
            have HBJ := Lib.hid hbj
            by_cases hjn : j < zs.length
            · obtain ⟨a1, rfl, x1⟩ := reads_at HRX.out j (by omega)
              obtain ⟨a2, rfl, x2⟩ := reads_at HRY.out j (by omega)
              obtain ⟨a3, rfl, x3'⟩ := reads_at HRZ.out j (by omega)
              have y1 := pw_cell_below hbj x1
              have y2 := pw_cell_below hbj x2
              have y3 := pw_cell_below hbj x3'
              have hat := own_at_of (d := 0) hoj (j : Int) (by omega) (by omega)
              rw [Int.toNat_natCast] at hat
              have f1 := hat.1
              have f2 := hat.2
              have hst := own_store_of hoj (j : Int) (ds.getD j 0)
              rw [Int.toNat_natCast, mix_set ds _ j (by rw [HDL.out]; exact hjn) (by simpa using hjn), HDG.out j hjn] at hst
              unfold x3 at hst
              obtain ⟨vx, hvx'⟩ : ∃ v : Int, v = xs.getD j 0 := ⟨_, rfl⟩
              obtain ⟨vy, hvy'⟩ : ∃ v : Int, v = ys.getD j 0 := ⟨_, rfl⟩
              obtain ⟨vz, hvz'⟩ : ∃ v : Int, v = zs.getD j 0 := ⟨_, rfl⟩
              rw [← hvx', ← hvy', ← hvz'] at hst
              rw [← hvx'] at y1
              rw [← hvy'] at y2
              rw [← hvz'] at y3
              have HST := Lib.hid hst
              have i1 : (0 : Int) ≤ (j : Int) := by omega
              have i2 : (j : Int) < (xs.length : Int) := by omega
              have i3 : (j : Int) < (ys.length : Int) := by omega
              have i4 : (j : Int) < (zs.length : Int) := by omega
              clear hoj hbj hat hst x1 x2 x3' hvx' hvy' hvz'
              go_wp2_with fail
              go_region
              go_wp2_with fail
              go_roundw
              case rel => exact ⟨j + 1, by go_num, by omega, HST.out.1, by first | exact (HBJ.out.setCell (Nat.le_refl _) _).drew | exact HBJ.out.setCell (Nat.le_refl _) _⟩
              case measure => simp [intOf]; omega
            · have hjn' : j = zs.length := by omega
              have HOF : Hid (wr.ownsRow W0.heap.size 5 1 (.slice (some ⟨wo.heap.size, 0, none⟩) zs.length zs.length) zs.length (encs I ds)) := by
                have h := hoj
                rw [hjn', mix, List.take_of_length_le (by rw [HDL.out]; exact Nat.le_refl _), List.drop_of_length_le (by simp), List.append_nil] at h
                exact h
              obtain ⟨i0, hi0, _, _, _⟩ := info_parts info5
              have q1 : ∀ W : World, (Instr.slice 27 (.slice A1 xs.length k1) none (some (.int .i64 (zs.length : Int))) none).run Try.prog W = .ok (.slice A1 zs.length k1) W := fun W => by
                have h := cut_to (P := Try.prog) 27 5 .i64 Try.underlying27 hi0 A1 xs.length k1 (zs.length : Int) (by omega) (by omega) hk1 W
                rwa [Int.toNat_natCast] at h
              have q2 : ∀ W : World, (Instr.slice 27 (.slice A2 ys.length k2) none (some (.int .i64 (zs.length : Int))) none).run Try.prog W = .ok (.slice A2 zs.length k2) W := fun W => by
                have h := cut_to (P := Try.prog) 27 5 .i64 Try.underlying27 hi0 A2 ys.length k2 (zs.length : Int) (by omega) (by omega) hk2 W
                rwa [Int.toNat_natCast] at h
              have q3 : ∀ W : World, (Instr.slice 27 (.slice A3 zs.length k3) none (some (.int .i64 (zs.length : Int))) none).run Try.prog W = .ok (.slice A3 zs.length k3) W := fun W => by
                have h := cut_to (P := Try.prog) 27 5 .i64 Try.underlying27 hi0 A3 zs.length k3 (zs.length : Int) (by omega) (by omega) hk3 W
                rwa [Int.toNat_natCast] at h
              have HZ := Lib.hid (pw_cell_below hbj hx0)
              have hz0 := pw_cell_below hbj hx0
              have HV4 := crc_mix_val (xs.take zs.length) (ys.take zs.length) (zs.take zs.length) (HLY.out.trans HLX.out.symm) (HLZ.out.trans HLX.out.symm) (byt_take HVX.out _) (byt_take HVY.out _) (byt_take HVZ.out _)
              rw [← HDS.out] at HV4
              obtain ⟨X, hX⟩ : ∃ X : Int, X = ((crc (xs.take zs.length)).toNat : Int) := ⟨_, rfl⟩
              obtain ⟨Y, hY⟩ : ∃ Y : Int, Y = ((crc (ys.take zs.length)).toNat : Int) := ⟨_, rfl⟩
              obtain ⟨Z, hZ⟩ : ∃ Z : Int, Z = ((crc (zs.take zs.length)).toNat : Int) := ⟨_, rfl⟩
              obtain ⟨D, hD⟩ : ∃ D : Int, D = ((crc ds).toNat : Int) := ⟨_, rfl⟩
              rw [← hX, ← hY, ← hZ, ← hD] at HV4
              have HSD : Hid (∀ W, Below wr.heap.size wr W → Calls Try.prog 9 #[.slice (some ⟨wo.heap.size, 0, none⟩) zs.length zs.length] W fun e w' => e = .returned (.int .u32 D) ∧ Below wr.heap.size wr w') := fun W hW => by
                have h := sum_reads ds (some ⟨wo.heap.size, 0, none⟩) zs.length W (own_reads (pw_own_below HOF.out hW) (by simp)) (by
                  rw [HDS.out]; intro a ha
                  obtain ⟨k, hk, rfl⟩ := List.mem_iff_getElem.1 ha
                  have hl : k < zs.length := by rw [← HDS.out, HDL.out] at hk; exact hk
                  have h2 := HDG.out k hl
                  rw [HDS.out, List.getD_eq_getElem?_getD, List.getElem?_eq_getElem hk] at h2
                  simp only [Option.getD_some] at h2
                  rw [h2]; exact x3_byte _ _ _)
                rw [HDL.out, ← hD] at h
                exact h.mono fun e w' ⟨he, hb⟩ => ⟨he, hW.trans (hb.mono hW.size)⟩
              have HSX : Hid (∀ W, Below wr.heap.size wr W → Calls Try.prog 9 #[.slice A1 zs.length k1] W fun e w' => e = .returned (.int .u32 X) ∧ Below wr.heap.size wr w') := fun W hW => by
                have h := sum_reads (xs.take zs.length) A1 k1 W (take_reads (reads_keep HRX.out (HBJ.out.trans (hW.mono HBJ.out.size))) zs.length n1) (byt_take HVX.out _)
                rw [HLX.out, ← hX] at h
                exact h.mono fun e w' ⟨he, hb⟩ => ⟨he, hW.trans (hb.mono hW.size)⟩
              have HSY : Hid (∀ W, Below wr.heap.size wr W → Calls Try.prog 9 #[.slice A2 zs.length k2] W fun e w' => e = .returned (.int .u32 Y) ∧ Below wr.heap.size wr w') := fun W hW => by
                have h := sum_reads (ys.take zs.length) A2 k2 W (take_reads (reads_keep HRY.out (HBJ.out.trans (hW.mono HBJ.out.size))) zs.length n2) (byt_take HVY.out _)
                rw [HLY.out, ← hY] at h
                exact h.mono fun e w' ⟨he, hb⟩ => ⟨he, hW.trans (hb.mono hW.size)⟩
              have HSZ' : Hid (∀ W, Below wr.heap.size wr W → Calls Try.prog 9 #[.slice A3 zs.length k3] W fun e w' => e = .returned (.int .u32 Z) ∧ Below wr.heap.size wr w') := fun W hW => by
                have h := sum_reads (zs.take zs.length) A3 k3 W (take_reads (reads_keep HRZ.out (HBJ.out.trans (hW.mono HBJ.out.size))) zs.length n3) (byt_take HVZ.out _)
                rw [HLZ.out, ← hZ] at h
                exact h.mono fun e w' ⟨he, hb⟩ => ⟨he, hW.trans (hb.mono hW.size)⟩
              clear hoj hbj hjn' hi0 hX hY hZ hD hx0 hmk
              go_wp2_with fail
              have cD : ∀ d os, Calls Try.prog 9 #[.slice (some ⟨wo.heap.size, 0, none⟩) zs.length zs.length] (Sort.grow (redrawn wr d) os) fun e w'' => e = .returned (.int .u32 D) ∧ ∃ p : Regrown, w'' = Sort.grow (redrawn wr p.d) p.os := fun d os => Calls.regrown_of' (HSD.out _ (below_regrown wr d os))
              have cX : ∀ d os, Calls Try.prog 9 #[.slice A1 zs.length k1] (Sort.grow (redrawn wr d) os) fun e w'' => e = .returned (.int .u32 X) ∧ ∃ p : Regrown, w'' = Sort.grow (redrawn wr p.d) p.os := fun d os => Calls.regrown_of' (HSX.out _ (below_regrown wr d os))
              have cY : ∀ d os, Calls Try.prog 9 #[.slice A2 zs.length k2] (Sort.grow (redrawn wr d) os) fun e w'' => e = .returned (.int .u32 Y) ∧ ∃ p : Regrown, w'' = Sort.grow (redrawn wr p.d) p.os := fun d os => Calls.regrown_of' (HSY.out _ (below_regrown wr d os))
              have cZ : ∀ d os, Calls Try.prog 9 #[.slice A3 zs.length k3] (Sort.grow (redrawn wr d) os) fun e w'' => e = .returned (.int .u32 Z) ∧ ∃ p : Regrown, w'' = Sort.grow (redrawn wr p.d) p.os := fun d os => Calls.regrown_of' (HSZ'.out _ (below_regrown wr d os))
              refine wp_region_quiet_below (by kernel_rfl) (by kernel_rfl) ?_
              repeat (quiet_step (first | with_reducible exact cD _ _ | with_reducible exact cX _ _ | with_reducible exact cY _ _ | with_reducible exact cZ _ _))
              refine wpQuiet_nil ?_
              intro _ hw'
              obtain ⟨⟨dq, osq⟩, hw''⟩ := hw'
              subst hw''
              go_wp2_with fail
              go_roundw
              case rel => exact ⟨k + 1, by go_num, by omega, HBK.out.trans ((HBJ.out.trans ((below_regrown wr dq osq).mono HBJ.out.size)).mono HBK.out.size)⟩
              case measure => simp [intOf]; omega
        · have d2 : ¬ ((zs.length : Int) < (xs.length : Int)) := by omega
          have n1 : xs.length ≤ xs.length := by omega
          have n2 : xs.length ≤ ys.length := by omega
          have n3 : xs.length ≤ zs.length := by omega
          have nb : xs.length ≤ 1048576 := by omega
          have hmk := print_make_of (P := Try.prog) 27 5 (.int .u8 0) 1 Try.underlying27 info5 rfl (by omega) xs.length (by omega)
          have HLX : Hid ((xs.take xs.length).length = xs.length) := by rw [List.length_take]; exact Nat.min_eq_left n1
          have HLY : Hid ((ys.take xs.length).length = xs.length) := by rw [List.length_take]; exact Nat.min_eq_left n2
          have HLZ : Hid ((zs.take xs.length).length = xs.length) := by rw [List.length_take]; exact Nat.min_eq_left n3
          obtain ⟨ds, hds⟩ : ∃ ds, ds = mix3 (xs.take xs.length) (ys.take xs.length) (zs.take xs.length) := ⟨_, rfl⟩
          have HDS := Lib.hid hds
          have HDL : Hid (ds.length = xs.length) := by rw [hds, mix3_length _ _ _ (HLY.out.trans HLX.out.symm) (HLZ.out.trans HLX.out.symm)]; exact HLX.out
          have HDG : Hid (∀ j, j < xs.length → ds.getD j 0 = x3 (xs.getD j 0) (ys.getD j 0) (zs.getD j 0)) := fun j hj => by
            rw [hds, mix3_get _ _ _ (HLY.out.trans HLX.out.symm) (HLZ.out.trans HLX.out.symm) j (by rw [HLX.out]; exact hj), getD_take xs _ _ hj, getD_take ys _ _ hj, getD_take zs _ _ hj]
          have HOD := Lib.hid (own_made_of (enc := I) (d := (0 : Int)) wo W0.heap.size 5 xs.length HBK.out.size (by omega))
          have HBD : Hid (Below wo.heap.size wo (wo.alloc (.cells (madeCells #[Value.int .u8 0] xs.length) 5))) := (Below.refl _ _).alloc (Nat.le_refl _) _
          clear hds
          go_wp2_with fail
          go_loopw [9] (fun i wr => ∃ j : Nat, i = .int .i64 j ∧ j ≤ xs.length ∧ wr.ownsRow W0.heap.size 5 1 (.slice (some ⟨wo.heap.size, 0, none⟩) xs.length xs.length) xs.length (encs I (mix ds (List.replicate xs.length 0) j)) ∧ Below wo.heap.size wo wr) (fun i _ => xs.length - (intOf i).toNat)
          case atStart => exact ⟨0, rfl, by omega, by simpa [mix] using HOD.out, HBD.out⟩
          case round =>
            obtain ⟨j, rfl, hj, hoj, hbj⟩ := hrel
            have HOJ := Lib.hid hoj
            have HBJ := Lib.hid hbj
            by_cases hjn : j < xs.length
            · obtain ⟨a1, rfl, x1⟩ := reads_at HRX.out j (by omega)
              obtain ⟨a2, rfl, x2⟩ := reads_at HRY.out j (by omega)
              obtain ⟨a3, rfl, x3'⟩ := reads_at HRZ.out j (by omega)
              have y1 := pw_cell_below hbj x1
              have y2 := pw_cell_below hbj x2
              have y3 := pw_cell_below hbj x3'
              have hat := own_at_of (d := 0) hoj (j : Int) (by omega) (by omega)
              rw [Int.toNat_natCast] at hat
              have f1 := hat.1
              have f2 := hat.2
              have hst := own_store_of hoj (j : Int) (ds.getD j 0)
              rw [Int.toNat_natCast, mix_set ds _ j (by rw [HDL.out]; exact hjn) (by simpa using hjn), HDG.out j hjn] at hst
              unfold x3 at hst
              obtain ⟨vx, hvx'⟩ : ∃ v : Int, v = xs.getD j 0 := ⟨_, rfl⟩
              obtain ⟨vy, hvy'⟩ : ∃ v : Int, v = ys.getD j 0 := ⟨_, rfl⟩
              obtain ⟨vz, hvz'⟩ : ∃ v : Int, v = zs.getD j 0 := ⟨_, rfl⟩
              rw [← hvx', ← hvy', ← hvz'] at hst
              rw [← hvx'] at y1
              rw [← hvy'] at y2
              rw [← hvz'] at y3
              have HST := Lib.hid hst
              have i1 : (0 : Int) ≤ (j : Int) := by omega
              have i2 : (j : Int) < (xs.length : Int) := by omega
              have i3 : (j : Int) < (ys.length : Int) := by omega
              have i4 : (j : Int) < (zs.length : Int) := by omega
              clear hoj hbj hat hst x1 x2 x3' hvx' hvy' hvz'
              go_wp2_with fail
              go_region
              go_wp2_with fail
              go_roundw
              case rel => exact ⟨j + 1, by go_num, by omega, HST.out.1, by first | exact (HBJ.out.setCell (Nat.le_refl _) _).drew | exact HBJ.out.setCell (Nat.le_refl _) _⟩
              case measure => simp [intOf]; omega
            · have hjn' : j = xs.length := by omega
              have HOF : Hid (wr.ownsRow W0.heap.size 5 1 (.slice (some ⟨wo.heap.size, 0, none⟩) xs.length xs.length) xs.length (encs I ds)) := by
                have h := hoj
                rw [hjn', mix, List.take_of_length_le (by rw [HDL.out]; exact Nat.le_refl _), List.drop_of_length_le (by simp), List.append_nil] at h
                exact h
              obtain ⟨i0, hi0, _, _, _⟩ := info_parts info5
              have q1 : ∀ W : World, (Instr.slice 27 (.slice A1 xs.length k1) none (some (.int .i64 (xs.length : Int))) none).run Try.prog W = .ok (.slice A1 xs.length k1) W := fun W => by
                have h := cut_to (P := Try.prog) 27 5 .i64 Try.underlying27 hi0 A1 xs.length k1 (xs.length : Int) (by omega) (by omega) hk1 W
                rwa [Int.toNat_natCast] at h
              have q2 : ∀ W : World, (Instr.slice 27 (.slice A2 ys.length k2) none (some (.int .i64 (xs.length : Int))) none).run Try.prog W = .ok (.slice A2 xs.length k2) W := fun W => by
                have h := cut_to (P := Try.prog) 27 5 .i64 Try.underlying27 hi0 A2 ys.length k2 (xs.length : Int) (by omega) (by omega) hk2 W
                rwa [Int.toNat_natCast] at h
              have q3 : ∀ W : World, (Instr.slice 27 (.slice A3 zs.length k3) none (some (.int .i64 (xs.length : Int))) none).run Try.prog W = .ok (.slice A3 xs.length k3) W := fun W => by
                have h := cut_to (P := Try.prog) 27 5 .i64 Try.underlying27 hi0 A3 zs.length k3 (xs.length : Int) (by omega) (by omega) hk3 W
                rwa [Int.toNat_natCast] at h
              have HZ := Lib.hid (pw_cell_below hbj hx0)
              have hz0 := pw_cell_below hbj hx0
              have HV4 := crc_mix_val (xs.take xs.length) (ys.take xs.length) (zs.take xs.length) (HLY.out.trans HLX.out.symm) (HLZ.out.trans HLX.out.symm) (byt_take HVX.out _) (byt_take HVY.out _) (byt_take HVZ.out _)
              rw [← HDS.out] at HV4
              obtain ⟨X, hX⟩ : ∃ X : Int, X = ((crc (xs.take xs.length)).toNat : Int) := ⟨_, rfl⟩
              obtain ⟨Y, hY⟩ : ∃ Y : Int, Y = ((crc (ys.take xs.length)).toNat : Int) := ⟨_, rfl⟩
              obtain ⟨Z, hZ⟩ : ∃ Z : Int, Z = ((crc (zs.take xs.length)).toNat : Int) := ⟨_, rfl⟩
              obtain ⟨D, hD⟩ : ∃ D : Int, D = ((crc ds).toNat : Int) := ⟨_, rfl⟩
              rw [← hX, ← hY, ← hZ, ← hD] at HV4
              have HSD : Hid (∀ W, Below wr.heap.size wr W → Calls Try.prog 9 #[.slice (some ⟨wo.heap.size, 0, none⟩) xs.length xs.length] W fun e w' => e = .returned (.int .u32 D) ∧ Below wr.heap.size wr w') := fun W hW => by
                have h := sum_reads ds (some ⟨wo.heap.size, 0, none⟩) xs.length W (own_reads (pw_own_below HOF.out hW) (by simp)) (by
                  rw [HDS.out]; intro a ha
                  obtain ⟨k, hk, rfl⟩ := List.mem_iff_getElem.1 ha
                  have hl : k < xs.length := by rw [← HDS.out, HDL.out] at hk; exact hk
                  have h2 := HDG.out k hl
                  rw [HDS.out, List.getD_eq_getElem?_getD, List.getElem?_eq_getElem hk] at h2
                  simp only [Option.getD_some] at h2
                  rw [h2]; exact x3_byte _ _ _)
                rw [HDL.out, ← hD] at h
                exact h.mono fun e w' ⟨he, hb⟩ => ⟨he, hW.trans (hb.mono hW.size)⟩
              have HSX : Hid (∀ W, Below wr.heap.size wr W → Calls Try.prog 9 #[.slice A1 xs.length k1] W fun e w' => e = .returned (.int .u32 X) ∧ Below wr.heap.size wr w') := fun W hW => by
                have h := sum_reads (xs.take xs.length) A1 k1 W (take_reads (reads_keep HRX.out (HBJ.out.trans (hW.mono HBJ.out.size))) xs.length n1) (byt_take HVX.out _)
                rw [HLX.out, ← hX] at h
                exact h.mono fun e w' ⟨he, hb⟩ => ⟨he, hW.trans (hb.mono hW.size)⟩
              have HSY : Hid (∀ W, Below wr.heap.size wr W → Calls Try.prog 9 #[.slice A2 xs.length k2] W fun e w' => e = .returned (.int .u32 Y) ∧ Below wr.heap.size wr w') := fun W hW => by
                have h := sum_reads (ys.take xs.length) A2 k2 W (take_reads (reads_keep HRY.out (HBJ.out.trans (hW.mono HBJ.out.size))) xs.length n2) (byt_take HVY.out _)
                rw [HLY.out, ← hY] at h
                exact h.mono fun e w' ⟨he, hb⟩ => ⟨he, hW.trans (hb.mono hW.size)⟩
              have HSZ' : Hid (∀ W, Below wr.heap.size wr W → Calls Try.prog 9 #[.slice A3 xs.length k3] W fun e w' => e = .returned (.int .u32 Z) ∧ Below wr.heap.size wr w') := fun W hW => by
                have h := sum_reads (zs.take xs.length) A3 k3 W (take_reads (reads_keep HRZ.out (HBJ.out.trans (hW.mono HBJ.out.size))) xs.length n3) (byt_take HVZ.out _)
                rw [HLZ.out, ← hZ] at h
                exact h.mono fun e w' ⟨he, hb⟩ => ⟨he, hW.trans (hb.mono hW.size)⟩
              clear hoj hbj hjn' hi0 hX hY hZ hD hx0 hmk
              go_wp2_with fail
              have cD : ∀ d os, Calls Try.prog 9 #[.slice (some ⟨wo.heap.size, 0, none⟩) xs.length xs.length] (Sort.grow (redrawn wr d) os) fun e w'' => e = .returned (.int .u32 D) ∧ ∃ p : Regrown, w'' = Sort.grow (redrawn wr p.d) p.os := fun d os => Calls.regrown_of' (HSD.out _ (below_regrown wr d os))
              have cX : ∀ d os, Calls Try.prog 9 #[.slice A1 xs.length k1] (Sort.grow (redrawn wr d) os) fun e w'' => e = .returned (.int .u32 X) ∧ ∃ p : Regrown, w'' = Sort.grow (redrawn wr p.d) p.os := fun d os => Calls.regrown_of' (HSX.out _ (below_regrown wr d os))
              have cY : ∀ d os, Calls Try.prog 9 #[.slice A2 xs.length k2] (Sort.grow (redrawn wr d) os) fun e w'' => e = .returned (.int .u32 Y) ∧ ∃ p : Regrown, w'' = Sort.grow (redrawn wr p.d) p.os := fun d os => Calls.regrown_of' (HSY.out _ (below_regrown wr d os))
              have cZ : ∀ d os, Calls Try.prog 9 #[.slice A3 xs.length k3] (Sort.grow (redrawn wr d) os) fun e w'' => e = .returned (.int .u32 Z) ∧ ∃ p : Regrown, w'' = Sort.grow (redrawn wr p.d) p.os := fun d os => Calls.regrown_of' (HSZ'.out _ (below_regrown wr d os))
              refine wp_region_quiet_below (by kernel_rfl) (by kernel_rfl) ?_
              repeat (quiet_step (first | with_reducible exact cD _ _ | with_reducible exact cX _ _ | with_reducible exact cY _ _ | with_reducible exact cZ _ _))
              refine wpQuiet_nil ?_
              intro _ hw'
              obtain ⟨⟨dq, osq⟩, hw''⟩ := hw'
              subst hw''
              go_wp2_with fail
              go_roundw
              case rel => exact ⟨k + 1, by go_num, by omega, HBK.out.trans ((HBJ.out.trans ((below_regrown wr dq osq).mono HBJ.out.size)).mono HBK.out.size)⟩
              case measure => simp [intOf]; omega
    · have b1 : ¬ (k : Int) + 2 < (ll.length : Int) := by omega
      go_wp2_with fail
      go_ret
      exact ⟨rfl, HB0.out.trans (HBK.out.mono (by have := HSZ.out; omega))⟩
end Go.Proofs.Ytedbpagjhnkdbaa.CodeMixed
