/- CodeWrites: two Writers, in turns: whenever it is asked, each holds just what was laid into it. -/
import Derived.Test.YtedbpagjhnkdbaaCore
import Derived.StillTailTactics
import Derived.Deep.RegionHeld3
namespace Go.Proofs.Ytedbpagjhnkdbaa.CodeWrites
open Go.RowKit Go.Proofs.YtedbpagjhnkdbaaW.PrintWords Go.Proofs.Ytedbpagjhnkdbaa.Bytes Go.Proofs.Ytedbpagjhnkdbaa.Wr
set_option linter.unusedVariables false
set_option linter.unusedSimpArgs false
set_option maxRecDepth 100000 in
set_option maxHeartbeats 6400000 in
theorem walk (os : List (Int × Int × Int × Int × List Int)) (V0 V1 : Value) (A : Option Addr) (c : Nat) (w : World) (hr : KOp.C w A os.length os)
    (hv : ∀ o, o ∈ os → (-9223372036854775808 ≤ o.2.1 ∧ o.2.1 ≤ 9223372036854775807) ∧ (0 ≤ o.2.2.2.1 ∧ o.2.2.2.1 ≤ 18446744073709551615) ∧ Byt o.2.2.2.2 ∧ o.2.2.2.2.length ≤ 1048576) :
    Calls Try.prog 6 #[.agg #[V0, V1, .slice A os.length c]] w fun e w' => e = .returned (.bool true) ∧ Below w.heap.size w w' := by
  obtain ⟨W0, hW0⟩ : ∃ W0, W0 = w.alloc (.cells #[V0, V1, .slice A os.length c] 41) := ⟨_, rfl⟩
  have hB0 : Below w.heap.size w W0 := by rw [hW0]; exact (Below.refl _ _).alloc (Nat.le_refl _) _
  have hblk : W0.heap[w.heap.size]? = some (.cells #[V0, V1, .slice A os.length c] 41 (0, 0)) := by rw [hW0]; exact blk_new w _
  have HB0 := Lib.hid hB0
  have HW0 := Lib.hid hW0
  have HR := Lib.hid hr
  have HV := Lib.hid hv
  have HSZ : Hid (W0.heap.size = w.heap.size + 1) := by rw [hW0]; show _ = _; simp
  have N0 := Lib.hid (new_calls W0 W0.heap.size (Nat.le_refl _))
  have HBK := Lib.hid hblk
  clear hW0 hB0 hblk hr hv
  go_enter Try.func6, Try.ntmps6
  go_wp2_with fail
  rw [← HW0.out]
  go_wp2_with fail
  refine N0.out.mono ?_; rintro e w1 ⟨rfl, hw1, hb1⟩
  have T1 := Lib.hid hw1
  have B1 := Lib.hid hb1
  have N1 := Lib.hid (new_calls w1 W0.heap.size hb1.size)
  clear hw1 hb1
  go_wp2_with fail
  refine N1.out.mono ?_; rintro e w2 ⟨rfl, hw2, hb2⟩
  obtain ⟨W3, hW3⟩ : ∃ W3, W3 = (w2.alloc (.cells #[.pointer (some ⟨W0.heap.size, 0, none⟩), .pointer (some ⟨w1.heap.size, 0, none⟩)] 44)).alloc (.cells #[.slice none 0 0, .slice none 0 0] 38) := ⟨_, rfl⟩
  have hb23 : Below w2.heap.size w2 W3 := by rw [hW3]; exact ((Below.refl _ _).alloc (Nat.le_refl _) _).alloc (by simp) _
  have hB03 : Below W0.heap.size W0 W3 := B1.out.trans ((hb2.mono B1.out.size).trans (hb23.mono (Nat.le_trans B1.out.size hb2.size)))
  have hx : ((w2.alloc (.cells #[.pointer (some ⟨W0.heap.size, 0, none⟩), .pointer (some ⟨w1.heap.size, 0, none⟩)] 44)).alloc (.cells #[.slice none 0 0, .slice none 0 0] 38)).cell? ⟨w.heap.size, 2, none⟩ = some (.slice A os.length c) := by
    rw [← hW3]; exact blk_cell (blk_below HBK.out hB03) 2
  have h3 : W3.heap[w2.heap.size]? = some (.cells #[.pointer (some ⟨W0.heap.size, 0, none⟩), .pointer (some ⟨w1.heap.size, 0, none⟩)] 44 (0, 0)) := by rw [hW3]; exact blk_alloc (blk_new w2 _) _
  have h4 : W3.heap[w2.heap.size + 1]? = some (.cells #[.slice none 0 0, .slice none 0 0] 38 (0, 0)) := by
    rw [hW3]
    have h := blk_new (w2.alloc (.cells #[.pointer (some ⟨W0.heap.size, 0, none⟩), .pointer (some ⟨w1.heap.size, 0, none⟩)] 44)) (.cells #[.slice none 0 0, .slice none 0 0] 38)
    rwa [show (w2.alloc (.cells #[.pointer (some ⟨W0.heap.size, 0, none⟩), .pointer (some ⟨w1.heap.size, 0, none⟩)] 44)).heap.size = w2.heap.size + 1 by simp] at h
  have P := Lib.hid (played_calls os A c w W3 (HB0.out.trans (hB03.mono (by have := HSZ.out; omega))) HR.out HV.out)
  have t1 : Wtr W3 W0.heap.size W0.heap.size (.slice none 0 0) [] := wtr_below (wtr_below T1.out hb2) hb23
  have t2 : Wtr W3 W0.heap.size w1.heap.size (.slice none 0 0) [] := wtr_below hw2 hb23
  have hgg : W0.heap.size ≠ w1.heap.size := by have := blk_lt T1.out.blk; omega
  have HW3 := Lib.hid hW3
  have HB03 := Lib.hid hB03
  have C3 : Hid (∀ W4 vo (ps : List Stp), Below W3.heap.size W3 W4 → W4.ownsRow W3.heap.size 48 5 vo ps.length (stpCells ps) → Core W4 W0.heap.size w2.heap.size (w2.heap.size + 1) W0.heap.size w1.heap.size (.slice none 0 0) (.slice none 0 0) (.slice none 0 0) (.slice none 0 0) [] [] vo ps) :=
    fun W4 vo ps hb ho => ⟨blk_below h3 hb, blk_below h4 hb, by have := B1.out.size; have := hb2.size; omega, wtr_below t1 hb, wtr_below t2 hb, own_nil _ _ _ _, own_nil _ _ _ _, ne_nil _, ne_nil _, ne_nil _, ne_nil _, ne_nil _, ne_nil _, hgg, own_less ho hB03.size⟩
  clear hw2 hb2 hb23 hB03 h3 h4 t1 t2 hW3 hgg
  go_wp2_with fail
  rw [← HW3.out]
  refine P.out.mono ?_; rintro e w4 ⟨ps, vo, rfl, hop, hbp, hpl, hpg⟩
  have C4 := Lib.hid (C3.out w4 vo ps hbp hop)
  have HB4 := Lib.hid (HB03.out.trans (hbp.mono HB03.out.size))
  obtain ⟨Ao, co, rfl⟩ : ∃ Ao co, vo = .slice Ao ps.length co := by
    rcases hop.2 with ⟨rfl, e⟩ | ⟨g', cap, cur, rfl, _⟩
    · exact ⟨none, 0, by rw [e]⟩
    · exact ⟨_, _, rfl⟩
  have HPL := Lib.hid hpl
  have HPG := Lib.hid hpg
  clear hop hbp hpl hpg hx
  go_wp2_with fail
  go_loopw [6] (fun i wr => ∃ (k : Nat) (v0 v1 h0 h1 : Value) (x0 x1 : List Int), i = .int .i64 k ∧ k ≤ ps.length ∧ x0.length ≤ k * 1048600 ∧ x1.length ≤ k * 1048600 ∧ Core wr W0.heap.size w2.heap.size (w2.heap.size + 1) W0.heap.size w1.heap.size v0 v1 h0 h1 x0 x1 (.slice Ao ps.length co) ps ∧ Below W0.heap.size W0 wr) (fun i _ => ps.length - (intOf i).toNat)
  case atStart => exact ⟨0, _, _, _, _, [], [], rfl, by omega, by simp, by simp, C4.out, HB4.out⟩
  case round =>
    obtain ⟨k, v0, v1, h0, h1, x0, x1, rfl, hk, hx0, hx1, hc, hb⟩ := hrel
    have HC := Lib.hid hc
    have HB := Lib.hid hb
    by_cases hlt : k < ps.length
    · have hgd := HPG.out _ (List.getElem_mem hlt)
      obtain ⟨go, cap, hAo, _, _⟩ := hc.os.form (by omega)
      injection hAo with hAo _ hco
      subst hAo
      subst hco
      have hcell := fun j hj => stp_cell hc.os k j hlt rfl hj
      obtain ⟨p, hp⟩ : ∃ p, p = ps[k] := ⟨_, rfl⟩
      rw [← hp] at hgd
      simp only [← hp] at hcell
      obtain ⟨kind, which, m, n, b, Ab, cb⟩ := p
      have q0 : wr.cell? ⟨go, k * 5, none⟩ = some (.int .i64 kind) := hcell 0 (by omega)
      have q1 : wr.cell? ⟨go, k * 5 + 1, none⟩ = some (.int .i64 which) := hcell 1 (by omega)
      have q2 : wr.cell? ⟨go, k * 5 + 2, none⟩ = some (.int .i64 m) := hcell 2 (by omega)
      have q3 : wr.cell? ⟨go, k * 5 + 3, none⟩ = some (.int .u64 n) := hcell 3 (by omega)
      have q4 : wr.cell? ⟨go, k * 5 + 4, none⟩ = some (.slice Ab b.length cb) := hcell 4 (by omega)
      have HGD := Lib.hid hgd
      have HK1 : Hid (k + 1 ≤ ps.length) := hlt
      have HL0 : Hid (x0.length ≤ (k + 1) * 1048600) := Nat.le_trans hx0 (Nat.mul_le_mul_right _ (Nat.le_succ k))
      have HL1 : Hid (x1.length ≤ (k + 1) * 1048600) := Nat.le_trans hx1 (Nat.mul_le_mul_right _ (Nat.le_succ k))
      have CI := Lib.hid (fun W => into_calls which W hgd.wh.1 hgd.wh.2)
      have i1 : (k : Int) < (ps.length : Int) := by omega
      have i2 : (ps.length : Int) ≤ 400 := by have := HPL.out; omega
      clear hp hcell hgd hc hb
      go_wp2_with fail
      refine (CI.out _).mono ?_; rintro e wB ⟨rfl, hwB⟩
      have hal : Below wr.heap.size wr wB := by rw [hwB]; exact (Below.refl _ _).alloc (Nat.le_refl _) _
      have hcb := HC.out.below hal
      have hbx : wB.heap[wr.heap.size]? = some (.cells #[.int .i64 kind, .int .i64 which, .int .i64 m, .int .u64 n, .slice Ab b.length cb] 48 (0, 0)) := by rw [hwB]; exact blk_new wr _
      have HCB := Lib.hid hcb
      have HBX := Lib.hid hbx
      have HBB := Lib.hid (HB.out.trans (hal.mono HB.out.size))
      have x0' := blk_cell hbx 0
      have x1' := blk_cell hbx 1
      have x2' := blk_cell hbx 2
      have x3' := blk_cell hbx 3
      have x4' := blk_cell hbx 4
      have y0 := blk_cell hcb.b3 0
      have y1 := blk_cell hcb.b3 1
      have z0 := blk_cell hcb.b4 0
      have z1 := blk_cell hcb.b4 1
      simp at x0' x1' x2' x3' x4' y0 y1 z0 z1
      clear hwB hal hcb hbx q0 q1 q2 q3 q4
      obtain ⟨AH0, nH0, cH0, rfl⟩ := slice_form HCB.out.o0
      obtain ⟨AH1, nH1, cH1, rfl⟩ := slice_form HCB.out.o1
      have hpar : which % 2 = 0 ∨ which % 2 = 1 := by omega
      rcases hpar with hpar | hpar
      · rw [hpar]
        have CW := Lib.hid (writes_all kind which m n b Ab cb wB.drew W0.heap.size W0.heap.size v0 (.slice AH0 nH0 cH0) x0 (wtr_below HCB.out.w0 (Below.refl _ _).drew) (own_drew HCB.out.o0) HCB.out.n00 HBB.out.size (fun W' hW => reads_keep HGD.out.rd (HB0.out.trans ((HBB.out.trans ((⟨hW.os, hW.tape, hW.output, hW.size, hW.block⟩ : Below W0.heap.size wB W'))).mono (by have := HSZ.out; omega)))) HGD.out.n64 HGD.out.bl (by omega))
        have SK : Hid (∀ W' v' h' ys zs, Two wB.drew W' W0.heap.size W0.heap.size v0 (.slice AH0 nH0 cH0) v' h' ys zs → W'.cell? ⟨w2.heap.size, 0, none⟩ = some (.pointer (some ⟨W0.heap.size, 0, none⟩)) ∧ W'.cell? ⟨w2.heap.size + 1, 0, none⟩ = some (.slice AH0 nH0 cH0) ∧ W'.cell? ⟨wr.heap.size, 0, none⟩ = some (.int .i64 kind) ∧ W'.cell? ⟨wr.heap.size, 1, none⟩ = some (.int .i64 which) ∧ W'.cell? ⟨wr.heap.size, 2, none⟩ = some (.int .i64 m) ∧ W'.cell? ⟨wr.heap.size, 3, none⟩ = some (.int .u64 n) ∧ W'.cell? ⟨wr.heap.size, 4, none⟩ = some (.slice Ab b.length cb)) := by
          intro W' v' h' ys zs t
          have k3 := t.block (show wB.drew.heap[w2.heap.size]? = _ from HCB.out.b3) (by decide) (blk_ne HCB.out.b3 HCB.out.w0.blk (by decide)) (own_drew HCB.out.w0.own) (own_drew HCB.out.o0)
          have k4 := t.block (show wB.drew.heap[w2.heap.size + 1]? = _ from HCB.out.b4) (by decide) (blk_ne HCB.out.b4 HCB.out.w0.blk (by decide)) (own_drew HCB.out.w0.own) (own_drew HCB.out.o0)
          have k5 := t.block (show wB.drew.heap[wr.heap.size]? = _ from HBX.out) (by decide) (blk_ne HBX.out HCB.out.w0.blk (by decide)) (own_drew HCB.out.w0.own) (own_drew HCB.out.o0)
          exact ⟨blk_cell k3 0, blk_cell k4 0, blk_cell k5 0, blk_cell k5 1, blk_cell k5 2, blk_cell k5 3, blk_cell k5 4⟩
        go_wp2_with fail
        go_region_held3 (fun w' => w'.cell? ⟨w2.heap.size, 0, none⟩ = some (.pointer (some ⟨W0.heap.size, 0, none⟩)) ∧ w'.cell? ⟨w2.heap.size + 1, 0, none⟩ = some (.slice AH0 nH0 cH0) ∧ w'.cell? ⟨wr.heap.size, 0, none⟩ = some (.int .i64 kind) ∧ w'.cell? ⟨wr.heap.size, 1, none⟩ = some (.int .i64 which) ∧ w'.cell? ⟨wr.heap.size, 2, none⟩ = some (.int .i64 m) ∧ w'.cell? ⟨wr.heap.size, 3, none⟩ = some (.int .u64 n) ∧ w'.cell? ⟨wr.heap.size, 4, none⟩ = some (.slice Ab b.length cb))
          (first | exact SK.out _ _ _ _ _ T9.out | exact ⟨y0, z0, x0', x1', x2', x3', x4'⟩)
          (first | (go_at_call 21; with_reducible refine CW.out.mono ?_; rintro e w9 ⟨v9, h9, rfl, ht⟩; have T9 := Lib.hid ht; clear ht))
        have f4 := blk_frozen (T9.out.block (show wB.drew.heap[w2.heap.size + 1]? = _ from HCB.out.b4) (by decide) (blk_ne HCB.out.b4 HCB.out.w0.blk (by decide)) (own_drew HCB.out.w0.own) (own_drew HCB.out.o0)) 0
        obtain ⟨A9, n9, c9, rfl⟩ := slice_form T9.out.ho
        have C9 := Lib.hid ((HCB.out.below (Below.refl _ _).drew).step0 T9.out)
        have B9 : Hid (Below W0.heap.size W0 (w9.setCell ⟨w2.heap.size + 1, 0, none⟩ (.slice A9 n9 c9))) := ((HBB.out.drew).trans T9.out.bl).setCell HCB.out.le4 _
        have HL9 : Hid ((x0 ++ opBytes kind n b).length ≤ (k + 1) * 1048600) := by
          have := opBytes_length kind n b HGD.out.n64 HGD.out.bl
          show (x0 ++ opBytes kind n b).length ≤ (k + 1) * 1048600
          rw [List.length_append]; omega
        go_wp2_with fail
        go_roundw
        case rel => exact ⟨k + 1, v9, v1, (.slice A9 n9 c9), (.slice AH1 nH1 cH1), x0 ++ opBytes kind n b, x1, by go_num, HK1.out, HL9.out, HL1.out, C9.out, B9.out⟩
        case measure => simp [intOf]; omega
      · rw [hpar]
        have CW := Lib.hid (writes_all kind which m n b Ab cb wB.drew W0.heap.size w1.heap.size v1 (.slice AH1 nH1 cH1) x1 (wtr_below HCB.out.w1 (Below.refl _ _).drew) (own_drew HCB.out.o1) HCB.out.n11 HBB.out.size (fun W' hW => reads_keep HGD.out.rd (HB0.out.trans ((HBB.out.trans ((⟨hW.os, hW.tape, hW.output, hW.size, hW.block⟩ : Below W0.heap.size wB W'))).mono (by have := HSZ.out; omega)))) HGD.out.n64 HGD.out.bl (by omega))
        have SK : Hid (∀ W' v' h' ys zs, Two wB.drew W' W0.heap.size w1.heap.size v1 (.slice AH1 nH1 cH1) v' h' ys zs → W'.cell? ⟨w2.heap.size, 1, none⟩ = some (.pointer (some ⟨w1.heap.size, 0, none⟩)) ∧ W'.cell? ⟨w2.heap.size + 1, 1, none⟩ = some (.slice AH1 nH1 cH1) ∧ W'.cell? ⟨wr.heap.size, 0, none⟩ = some (.int .i64 kind) ∧ W'.cell? ⟨wr.heap.size, 1, none⟩ = some (.int .i64 which) ∧ W'.cell? ⟨wr.heap.size, 2, none⟩ = some (.int .i64 m) ∧ W'.cell? ⟨wr.heap.size, 3, none⟩ = some (.int .u64 n) ∧ W'.cell? ⟨wr.heap.size, 4, none⟩ = some (.slice Ab b.length cb)) := by
          intro W' v' h' ys zs t
          have k3 := t.block (show wB.drew.heap[w2.heap.size]? = _ from HCB.out.b3) (by decide) (blk_ne HCB.out.b3 HCB.out.w1.blk (by decide)) (own_drew HCB.out.w1.own) (own_drew HCB.out.o1)
          have k4 := t.block (show wB.drew.heap[w2.heap.size + 1]? = _ from HCB.out.b4) (by decide) (blk_ne HCB.out.b4 HCB.out.w1.blk (by decide)) (own_drew HCB.out.w1.own) (own_drew HCB.out.o1)
          have k5 := t.block (show wB.drew.heap[wr.heap.size]? = _ from HBX.out) (by decide) (blk_ne HBX.out HCB.out.w1.blk (by decide)) (own_drew HCB.out.w1.own) (own_drew HCB.out.o1)
          exact ⟨blk_cell k3 1, blk_cell k4 1, blk_cell k5 0, blk_cell k5 1, blk_cell k5 2, blk_cell k5 3, blk_cell k5 4⟩
        go_wp2_with fail
        go_region_held3 (fun w' => w'.cell? ⟨w2.heap.size, 1, none⟩ = some (.pointer (some ⟨w1.heap.size, 0, none⟩)) ∧ w'.cell? ⟨w2.heap.size + 1, 1, none⟩ = some (.slice AH1 nH1 cH1) ∧ w'.cell? ⟨wr.heap.size, 0, none⟩ = some (.int .i64 kind) ∧ w'.cell? ⟨wr.heap.size, 1, none⟩ = some (.int .i64 which) ∧ w'.cell? ⟨wr.heap.size, 2, none⟩ = some (.int .i64 m) ∧ w'.cell? ⟨wr.heap.size, 3, none⟩ = some (.int .u64 n) ∧ w'.cell? ⟨wr.heap.size, 4, none⟩ = some (.slice Ab b.length cb))
          (first | exact SK.out _ _ _ _ _ T9.out | exact ⟨y1, z1, x0', x1', x2', x3', x4'⟩)
          (first | (go_at_call 21; with_reducible refine CW.out.mono ?_; rintro e w9 ⟨v9, h9, rfl, ht⟩; have T9 := Lib.hid ht; clear ht))
        have f4 := blk_frozen (T9.out.block (show wB.drew.heap[w2.heap.size + 1]? = _ from HCB.out.b4) (by decide) (blk_ne HCB.out.b4 HCB.out.w1.blk (by decide)) (own_drew HCB.out.w1.own) (own_drew HCB.out.o1)) 1
        obtain ⟨A9, n9, c9, rfl⟩ := slice_form T9.out.ho
        have C9 := Lib.hid ((HCB.out.below (Below.refl _ _).drew).step1 T9.out)
        have B9 : Hid (Below W0.heap.size W0 (w9.setCell ⟨w2.heap.size + 1, 1, none⟩ (.slice A9 n9 c9))) := ((HBB.out.drew).trans T9.out.bl).setCell HCB.out.le4 _
        have HL9 : Hid ((x1 ++ opBytes kind n b).length ≤ (k + 1) * 1048600) := by
          have := opBytes_length kind n b HGD.out.n64 HGD.out.bl
          show (x1 ++ opBytes kind n b).length ≤ (k + 1) * 1048600
          rw [List.length_append]; omega
        go_wp2_with fail
        go_roundw
        case rel => exact ⟨k + 1, v0, v9, (.slice AH0 nH0 cH0), (.slice A9 n9 c9), x0, x1 ++ opBytes kind n b, by go_num, HK1.out, HL0.out, HL9.out, C9.out, B9.out⟩
        case measure => simp [intOf]; omega
    · have i1 : ¬ (k : Int) < (ps.length : Int) := by omega
      have i2 : (ps.length : Int) ≤ 400 := by have := HPL.out; omega
      have hl0 : x0.length ≤ 419440000 := by have := HPL.out; omega
      have hl1 : x1.length ≤ 419440000 := by have := HPL.out; omega
      obtain ⟨AH0, nH0, cH0, rfl⟩ := slice_form hc.o0
      obtain ⟨AH1, nH1, cH1, rfl⟩ := slice_form hc.o1
      obtain rfl : nH0 = x0.length := by
        rcases hc.o0.2 with ⟨e, e2⟩ | ⟨_, _, _, e, _⟩
        · injection e with _ e _; omega
        · injection e with _ e _
      obtain rfl : nH1 = x1.length := by
        rcases hc.o1.2 with ⟨e, e2⟩ | ⟨_, _, _, e, _⟩
        · injection e with _ e _; omega
        · injection e with _ e _
      have HO0 : Hid (∀ W, Below wr.heap.size wr W → Calls Try.prog 23 #[.pointer (some ⟨W0.heap.size, 0, none⟩)] W fun e w' => ∃ A c, e = .returned (.slice A x0.length c) ∧ ReadsOf I 0 w' A x0.length x0 ∧ Below wr.heap.size wr w') := fun W hW =>
        (out_calls W W0.heap.size W.heap.size W0.heap.size v0 x0 (wtr_below HC.out.w0 hW) (Nat.le_refl _) (by omega)).mono fun e w' ⟨r, he, ho, hb⟩ => by
          obtain ⟨A', c', rfl, hr'⟩ := reads_of_own ho
          exact ⟨A', c', he, hr', hW.trans (hb.mono hW.size)⟩
      have HO1 : Hid (∀ W, Below wr.heap.size wr W → Calls Try.prog 23 #[.pointer (some ⟨w1.heap.size, 0, none⟩)] W fun e w' => ∃ A c, e = .returned (.slice A x1.length c) ∧ ReadsOf I 0 w' A x1.length x1 ∧ Below wr.heap.size wr w') := fun W hW =>
        (out_calls W W0.heap.size W.heap.size w1.heap.size v1 x1 (wtr_below HC.out.w1 hW) (Nat.le_refl _) (by omega)).mono fun e w' ⟨r, he, ho, hb⟩ => by
          obtain ⟨A', c', rfl, hr'⟩ := reads_of_own ho
          exact ⟨A', c', he, hr', hW.trans (hb.mono hW.size)⟩
      have HE0 : Hid (∀ W A c, Below wr.heap.size wr W → ReadsOf I 0 W A x0.length x0 → Calls Try.prog 22 #[.slice A x0.length c, .slice AH0 x0.length cH0] W fun e w' => e = .returned (.bool true) ∧ Below wr.heap.size wr w') := fun W A c hW hr =>
        (eq_calls x0 x0 A AH0 c cH0 W hr (own_reads (pw_own_below HC.out.o0 hW) (by simp)) (by omega)).mono fun e w' ⟨q, he, hq, hb⟩ => by
          obtain rfl : q = true := by simpa using hq
          exact ⟨he, hW.trans (hb.mono hW.size)⟩
      have HE1 : Hid (∀ W A c, Below wr.heap.size wr W → ReadsOf I 0 W A x1.length x1 → Calls Try.prog 22 #[.slice A x1.length c, .slice AH1 x1.length cH1] W fun e w' => e = .returned (.bool true) ∧ Below wr.heap.size wr w') := fun W A c hW hr =>
        (eq_calls x1 x1 A AH1 c cH1 W hr (own_reads (pw_own_below HC.out.o1 hW) (by simp)) (by omega)).mono fun e w' ⟨q, he, hq, hb⟩ => by
          obtain rfl : q = true := by simpa using hq
          exact ⟨he, hW.trans (hb.mono hW.size)⟩
      have HLN : Hid (∀ W, Below wr.heap.size wr W → Calls Try.prog 24 #[.pointer (some ⟨W0.heap.size, 0, none⟩)] W fun e w' => e = .returned (.int .i64 (x0.length : Int)) ∧ Below wr.heap.size wr w') := fun W hW =>
        (len_calls W W0.heap.size W0.heap.size v0 x0 (wtr_below HC.out.w0 hW)).mono fun e w' ⟨he, hw⟩ => ⟨he, by rw [hw]; exact hW⟩
      have y0 := blk_cell hc.b3 0
      have y1 := blk_cell hc.b3 1
      have z0 := blk_cell hc.b4 0
      have z1 := blk_cell hc.b4 1
      simp at y0 y1 z0 z1
      have Y0 := Lib.hid y0
      have Y1 := Lib.hid y1
      have Z0 := Lib.hid z0
      have Z1 := Lib.hid z1
      clear hc hb hl0 hl1 hx0 hx1
      go_wp2_with fail
      go_region_held3 (fun w' => w'.cell? ⟨w2.heap.size, 0, none⟩ = some (.pointer (some ⟨W0.heap.size, 0, none⟩)) ∧ w'.cell? ⟨w2.heap.size, 1, none⟩ = some (.pointer (some ⟨w1.heap.size, 0, none⟩)) ∧ w'.cell? ⟨w2.heap.size + 1, 0, none⟩ = some (.slice AH0 x0.length cH0) ∧ w'.cell? ⟨w2.heap.size + 1, 1, none⟩ = some (.slice AH1 x1.length cH1))
        (first | exact ⟨pw_cell_below hb9.out Y0.out, pw_cell_below hb9.out Y1.out, pw_cell_below hb9.out Z0.out, pw_cell_below hb9.out Z1.out⟩ | exact ⟨Y0.out, Y1.out, Z0.out, Z1.out⟩)
        (first
          | (go_at_call 23; with_reducible refine (HO0.out _ ?hh).mono ?_; (case hh => repeat (first | exact hb9.out | exact Below.refl _ _ | apply below_drew | apply pw_below_drewN)); rintro e w9 ⟨Ar, cr, rfl, hr9, hb9'⟩; have RR9 := Lib.hid hr9; have hb9 := Lib.hid hb9'; clear hb9' hr9)
          | (go_at_call 23; with_reducible refine (HO1.out _ ?hh).mono ?_; (case hh => repeat (first | exact hb9.out | exact Below.refl _ _ | apply below_drew | apply pw_below_drewN)); rintro e w9 ⟨Ar, cr, rfl, hr9, hb9'⟩; have RR9 := Lib.hid hr9; have hb9 := Lib.hid hb9'; clear hb9' hr9)
          | (go_at_call 22; with_reducible refine (HE0.out _ _ _ ?hh ?hr).mono ?_; (case hh => repeat (first | exact hb9.out | exact Below.refl _ _ | apply below_drew | apply pw_below_drewN)); (case hr => exact RR9.out); rintro e w9 ⟨rfl, hb9'⟩; have hb9 := Lib.hid hb9'; clear hb9')
          | (go_at_call 22; with_reducible refine (HE1.out _ _ _ ?hh ?hr).mono ?_; (case hh => repeat (first | exact hb9.out | exact Below.refl _ _ | apply below_drew | apply pw_below_drewN)); (case hr => exact RR9.out); rintro e w9 ⟨rfl, hb9'⟩; have hb9 := Lib.hid hb9'; clear hb9')
          | (go_at_call 24; with_reducible refine (HLN.out _ ?hh).mono ?_; (case hh => repeat (first | exact hb9.out | exact Below.refl _ _ | apply below_drew | apply pw_below_drewN)); rintro e w9 ⟨rfl, hb9'⟩; have hb9 := Lib.hid hb9'; clear hb9'))
      all_goals (go_wp2_with fail; go_ret; exact ⟨rfl, HB0.out.trans ((HB.out.trans (hb9.out.mono HB.out.size)).mono (by have := HSZ.out; omega))⟩)
end Go.Proofs.Ytedbpagjhnkdbaa.CodeWrites
