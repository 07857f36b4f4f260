/- Proved: whatever ends of ranges and questions come in: ranges (50 at most) are made or refused as the document says, and whatever is asked of them, in turns, twice, is answered as it says. -/
import Derived.Test.YtidofjmflpcglaaAsked
import Derived.Test.YtidofjmflpcglaaOpen
import Derived.Test.YtidofjmflpcglaaLend
import Derived.Deep.RegionHeld3
namespace Go.Proofs.Ytidofjmflpcglaa.SumRanges
open Go.RowKit Go.Proofs.Ytidofjmflpcglaa.SumPlain Go.Proofs.YtidofjmflpcglaaW.PrintWords Go.Proofs.Ytidofjmflpcglaa.Mul Go.Proofs.Ytidofjmflpcglaa.Opn Go.Proofs.Ytidofjmflpcglaa.Rng Go.Proofs.Ytidofjmflpcglaa.Asked
set_option linter.unusedVariables false
set_option linter.unusedSimpArgs false
theorem info66 : (Try.prog.info? 66).map (fun i => (i.zero, i.size, i.bytes)) = some (some (.pointer none), 1, 8) := by kernel_rfl
theorem info3 : (Try.prog.info? 3).map (fun i => (i.zero, i.size, i.bytes)) = some (some (.int .i64 0), 1, 8) := by kernel_rfl
def e1 (p : Nat × Nat) : Value := ptr p.1
def e2 (p : Nat × Nat) : Value := .int .i64 (p.2 : Int)
/-- The ranges that have been made: each in its block, of the ends at its place. -/
def Made (w : World) (B : Nat) (los his : List Int) (ps : List (Nat × Nat)) : Prop :=
  ∀ p, p ∈ ps → IsR w p.1 (rd los p.2) (rd his p.2) ∧ p.2 < los.length ∧ p.2 < his.length ∧ rd los p.2 ≤ rd his p.2 ∧ B ≤ p.1
structure St (w0 w : World) (B : Nat) (los his : List Int) (ps : List (Nat × Nat)) (lv av : Value) : Prop where
  l : w.ownsRow B 66 1 lv ps.length (encs e1 ps)
  a : w.ownsRow B 3 1 av ps.length (encs e2 ps)
  m : Made w B los his ps
  b : Below B w0 w
  n : ps.length ≤ 50
theorem Made.keep {w w' : World} {B : Nat} {los his : List Int} {ps : List (Nat × Nat)} (h : Made w B los his ps) (hb : Below w.heap.size w w') : Made w' B los his ps :=
  fun p hp => ⟨(h p hp).1.below hb (h p hp).1.lt, (h p hp).2⟩
theorem St.keep {w0 w w' : World} {B : Nat} {los his : List Int} {ps : List (Nat × Nat)} {lv av : Value} (h : St w0 w B los his ps lv av) (hB : B ≤ w.heap.size) (hb : Below w.heap.size w w') : St w0 w' B los his ps lv av :=
  ⟨pw_own_below h.l hb, pw_own_below h.a hb, h.m.keep hb, h.b.trans (hb.mono hB), h.n⟩

theorem and_mask16 (a : Int) (ha : I64 a) : Go.bits .and .i64 a 65535 = a % 65536 := by
  rw [bits_and]
  have h1 : (BitVec.ofInt 64 a &&& BitVec.ofInt 64 65535).toNat = (BitVec.ofInt 64 a).toNat % 65536 := by
    rw [BitVec.toNat_and]
    have : (BitVec.ofInt 64 65535).toNat = 65535 := by decide
    rw [this]
    exact Nat.and_two_pow_sub_one_eq_mod _ 16
  have h2 : (BitVec.ofInt 64 a).toNat = (a % 18446744073709551616).toNat := by
    rw [BitVec.toNat_ofInt]; rfl
  rw [← wrap_toInt, h1, h2, IntKind.wrap_i64]
  unfold I64 at ha
  omega
set_option maxHeartbeats 6400000 in
set_option maxRecDepth 100000 in
theorem walk (los his : List Int) (qs : List (Int × Int × Int × Int)) (A1 A2 A3 : Option Addr) (c1 c2 c3 : Nat) (w : World)
    (hr1 : (Kd.int .i64).C w A1 los.length los) (hr2 : (Kd.int .i64).C w A2 his.length his) (hr3 : (Kd.pair (Kd.int .i64) (Kd.pair (Kd.int .i64) (Kd.pair (Kd.int .i64) (Kd.int .i64)))).C w A3 qs.length qs)
    (hv1 : ∀ a, a ∈ los → I64 a) (hv2 : ∀ a, a ∈ his → I64 a) (hv3 : ∀ q, q ∈ qs → I64 q.1 ∧ I64 q.2.1 ∧ I64 q.2.2.1) :
    Calls Try.prog 10 #[.agg #[.slice A1 los.length c1, .slice A2 his.length c2, .slice A3 qs.length c3]] w fun e w' => e = .returned (.bool true) ∧ Below w.heap.size w w' := by
  have hn1 := Kd.C_max hr1
  have hn2 := Kd.C_max hr2
  have hn3 := Kd.C_max hr3
  have HR1 := Lib.hid hr1
  have HR2 := Lib.hid hr2
  have HR3 := Lib.hid hr3
  have HV1 := Lib.hid hv1
  have HV2 := Lib.hid hv2
  have HV3 := Lib.hid hv3
  have HB0 : Hid (Below w.heap.size w (w.alloc (.cells #[.slice A1 los.length c1, .slice A2 his.length c2, .slice A3 qs.length c3] 63))) := (Below.refl _ _).alloc (Nat.le_refl _) _
  have hbox0 : (w.alloc (.cells #[.slice A1 los.length c1, .slice A2 his.length c2, .slice A3 qs.length c3] 63)).cell? ⟨w.heap.size, 0, none⟩ = some (.slice A1 los.length c1) := by go_simp
  have hbox1 : (w.alloc (.cells #[.slice A1 los.length c1, .slice A2 his.length c2, .slice A3 qs.length c3] 63)).cell? ⟨w.heap.size, 1, none⟩ = some (.slice A2 his.length c2) := by go_simp
  have hbox2 : (w.alloc (.cells #[.slice A1 los.length c1, .slice A2 his.length c2, .slice A3 qs.length c3] 63)).cell? ⟨w.heap.size, 2, none⟩ = some (.slice A3 qs.length c3) := by go_simp
  obtain ⟨W0, hW0⟩ : ∃ W0, W0 = w.alloc (.cells #[.slice A1 los.length c1, .slice A2 his.length c2, .slice A3 qs.length c3] 63) := ⟨_, rfl⟩
  have hsz : W0.heap.size = w.heap.size + 1 := by rw [hW0]; simp
  rw [← hW0] at hbox0 hbox1 hbox2 HB0
  have HX0 := Lib.hid hbox0
  have HX1 := Lib.hid hbox1
  have HX2 := Lib.hid hbox2
  have HW0 := Lib.hid hW0
  have HSZ := Lib.hid hsz
  clear hW0 hsz hbox0 hbox1 hbox2 hr1 hr2 hr3 hv1 hv2 hv3
  have box : ∀ (W : World) (j : Nat) (v : Value), Below W0.heap.size W0 W → W0.cell? ⟨w.heap.size, j, none⟩ = some v → W.cell? ⟨w.heap.size, j, none⟩ = some v := fun W j v hb h => (hb.cell (p := ⟨w.heap.size, j, none⟩) (by have := HSZ.out; simp; omega)).trans h
  have HBX := Lib.hid box
  clear box
  go_enter Try.func10, Try.ntmps10
  go_wp2_with fail
  rw [← HW0.out]
  go_loopw [3, 4, 5] (fun lv av i wr => ∃ (k : Nat) (ps : List (Nat × Nat)), i = .int .i64 k ∧ k ≤ los.length ∧ ps.length ≤ k ∧ St W0 wr W0.heap.size los his ps lv av) (fun _ _ i _ => los.length - (intOf i).toNat)
  case atStart => exact ⟨0, [], rfl, Nat.zero_le _, Nat.le_refl _, ⟨own_nil _ _ _ _, own_nil _ _ _ _, fun p hp => (by cases hp), Below.refl _ _, by simp⟩⟩
  case round =>
    obtain ⟨k, ps, rfl, hk, hpk, hst⟩ := hrel
    have HS := Lib.hid hst
    clear hst
    have hx0 := HBX.out _ _ _ HS.out.b HX0.out
    have hx1 := HBX.out _ _ _ HS.out.b HX1.out
    by_cases hgo : k < los.length ∧ k < his.length ∧ k < 50
    · obtain ⟨g1, g2, g3⟩ := hgo
      obtain ⟨ad1, rfl, hc1⟩ := Kd.at_int (Kd.C_below (Kd.C_below HR1.out HB0.out) HS.out.b) k (by omega) (by omega)
      obtain ⟨ad2, rfl, hc2⟩ := Kd.at_int (Kd.C_below (Kd.C_below HR2.out HB0.out) HS.out.b) k (by omega) (by omega)
      rw [Int.toNat_natCast] at hc1 hc2
      have hi1 : I64 (rd los k) := by rw [Total.rd_get los k g1]; exact HV1.out _ (List.getElem_mem g1)
      have hi2 : I64 (rd his k) := by rw [Total.rd_get his k g2]; exact HV2.out _ (List.getElem_mem g2)
      have HI1 := Lib.hid hi1
      have HI2 := Lib.hid hi2
      clear hi1 hi2
      have b1 : (k : Int) < (los.length : Int) := by omega
      have b2 : (k : Int) < (his.length : Int) := by omega
      by_cases hlh : rd his k < rd los k
      · go_wp2_with fail
        go_region_held3 (fun w' => w'.cell? ⟨w.heap.size, 0, none⟩ = some (.slice (some ad1) los.length c1) ∧ w'.cell? ⟨w.heap.size, 1, none⟩ = some (.slice (some ad2) his.length c2) ∧ w'.cell? (ad1.add k) = some (.int .i64 (rd los k)) ∧ w'.cell? (ad2.add k) = some (.int .i64 (rd his k))) (go_keep)
          (first | (go_at_call 27; refine (new_no _ _ _ hlh).mono ?_; rintro e w' ⟨rfl, rfl⟩))
        go_wp2_with fail
        go_quiet (fail)
        go_wp2_with fail
        refine (num_calls 30 _).mono ?_; rintro e w' ⟨rfl, rfl⟩
        go_wp2_with fail
        go_roundw
        case rel => exact ⟨k + 1, ps, by go_num, by omega, by omega, HS.out.keep HS.out.b.size (by repeat (first | exact Below.refl _ _ | apply below_drew | apply pw_below_drewN))⟩
        case measure => simp [intOf]; omega
      · have hle : rd los k ≤ rd his k := by omega
        go_wp2_with fail
        go_region_held3 (fun w' => w'.cell? ⟨w.heap.size, 0, none⟩ = some (.slice (some ad1) los.length c1) ∧ w'.cell? ⟨w.heap.size, 1, none⟩ = some (.slice (some ad2) his.length c2) ∧ w'.cell? (ad1.add k) = some (.int .i64 (rd los k)) ∧ w'.cell? (ad2.add k) = some (.int .i64 (rd his k))) (first | go_keep | (go_split_ands; refine ⟨?_, ?_, ?_, ?_⟩ <;> (refine pw_cell_below (below_alloc (Below.refl _ _) _) ?_; assumption)))
          (first | (go_at_call 27; refine (new_yes _ _ _ hle).mono ?_; rintro e w' ⟨rfl, rfl⟩))
        obtain ⟨W1, hW1⟩ : ∃ W1, W1 = (wr.alloc (.cells #[.int .i64 (rd los k), .int .i64 (rd his k)] 89)).drew := ⟨_, rfl⟩
        have hbw : Below wr.heap.size wr W1 := by rw [hW1]; exact below_drew (below_alloc (Below.refl _ _) _)
        have hIR : IsR W1 wr.heap.size (rd los k) (rd his k) := by rw [hW1]; exact heap_alloc_new wr _
        have y0 := pw_cell_below hbw hx0
        have y1 := pw_cell_below hbw hx1
        have y2 := pw_cell_below hbw hc1
        have y3 := pw_cell_below hbw hc2
        have d1 : decide (rd his k < rd los k) = false := decide_eq_false (by omega)
        rw [← hW1]
        have HBW := Lib.hid hbw
        have HIR := Lib.hid hIR
        have hnb : wr.heap.size ≤ W1.heap.size := hbw.size
        have hB : W0.heap.size ≤ wr.heap.size := HS.out.b.size
        clear hW1 hbw hIR hx0 hx1 hc1 hc2
        go_wp2_with fail
        go_quiet (fail)
        go_wp2_with fail
        refine (num_calls 0 _).mono ?_; rintro e w' ⟨rfl, rfl⟩
        have hB2 : Below wr.heap.size wr (W1.drewN nq) := pw_below_drewN HBW.out nq
        obtain ⟨W2, hW2⟩ : ∃ W2, W2 = W1.drewN nq := ⟨_, rfl⟩
        have hS2 : St W0 W2 W0.heap.size los his ps u3 u4 := by rw [hW2]; exact HS.out.keep hB hB2
        have hI2 : IsR W2 wr.heap.size (rd los k) (rd his k) := by rw [hW2]; exact HIR.out
        have hsz2 : wr.heap.size ≤ W2.heap.size := by rw [hW2]; exact hnb
        rw [← hW2]
        have HS2 := Lib.hid hS2
        have HI2' := Lib.hid hI2
        clear hW2 hS2 hI2 hB2
        go_wp2_with (first
          | (at_builtin; refine print_append_of e1 (w0 := W0) W0.heap.size rfl (.tmp 70) (.tmp 72) 64 66 (.pointer none) 8 rfl Try.underlying64 info66 rfl (by omega) u3 ps (wr.heap.size, k) rfl rfl rfl ?h1 ?h2 ?h3 ?h4 ?_; (case h1 => exact HS2.out.l); (case h2 => exact HS2.out.b); (case h3 => omega); (case h4 => have := HS.out.n; omega); intro v1 w1 ho1 hb1 hg1 hat1; have hsz3 := hg1.size; have HO1 := Lib.hid ho1; have HG1 := Lib.hid hg1; have HB1 := Lib.hid hb1; clear ho1 hb1 hg1 hat1)
          | (at_builtin; refine print_append_of e2 (w0 := W0) W0.heap.size rfl (.tmp 74) (.tmp 76) 65 3 (.int .i64 0) 8 rfl Try.underlying65 info3 rfl (by omega) u4 ps (wr.heap.size, k) rfl rfl rfl ?h5 ?h6 ?h7 ?h8 ?_; (case h5 => exact own_other HS2.out.a HG1.out (own_type_ne HS2.out.a HS2.out.l (by decide))); (case h6 => exact HB1.out); (case h7 => omega); (case h8 => have := HS.out.n; omega); intro v2 w2 ho2 hb2 hg2 hat2; have HO2 := Lib.hid ho2; have HG2 := Lib.hid hg2; have HB2 := Lib.hid hb2; clear ho2 hb2 hg2 hat2))
        have hfin : St W0 w2 W0.heap.size los his (ps ++ [(wr.heap.size, k)]) v1 v2 := by
          have hat1 := own_other HS2.out.a HG1.out (own_type_ne HS2.out.a HS2.out.l (by decide))
          refine ⟨own_other HO1.out HG2.out (own_type_ne HO1.out hat1 (by decide)), HO2.out, ?_, HB2.out, ?_⟩
          · have kp : ∀ (g : Nat) (lo hi : Int), IsR W2 g lo hi → IsR w2 g lo hi := fun g lo hi h => by
              have h1 : IsR w1 g lo hi := blk_grown h HG1.out (own_ne HS2.out.l h (by decide))
              exact blk_grown h1 HG2.out (own_ne hat1 h1 (by decide))
            intro p hp
            rcases List.mem_append.1 hp with hp | hp
            · exact ⟨kp _ _ _ (HS2.out.m p hp).1, (HS2.out.m p hp).2⟩
            · rw [List.mem_singleton.1 hp]
              exact ⟨kp _ _ _ HI2'.out, g1, g2, hle, hB⟩
          · rw [List.length_append]; simp; omega
        have HFIN := Lib.hid hfin
        clear hfin
        go_roundw
        case rel => exact ⟨k + 1, _, by go_num, by omega, by simp; omega, HFIN.out⟩
        case measure => simp [intOf]; omega
    · obtain ⟨AL, cL, rfl, hrdL⟩ := own_reads_of (d := (0, 0)) HS.out.l
      obtain ⟨AA, cA, rfl, hrdA⟩ := own_reads_of (d := (0, 0)) HS.out.a
      have HRL := Lib.hid hrdL
      have HRA := Lib.hid hrdA
      obtain ⟨wo, rfl⟩ : ∃ wo : World, wo = wr := ⟨_, rfl⟩
      have HEX : Hid (∀ W, St W0 W W0.heap.size los his ps (.slice AL ps.length cL) (.slice AA ps.length cA) → Below w.heap.size w W) := fun W h => HB0.out.trans (h.b.mono (by have := HSZ.out; omega))
      clear hrdL hrdA
      have hcase : (¬ k < los.length) ∨ (k < los.length ∧ ¬ k < his.length) ∨ (k < los.length ∧ k < his.length ∧ ¬ k < 50) := by omega
      clear hgo
      rcases hcase with g1 | ⟨g1, g2⟩ | ⟨g1, g2, g3⟩
      all_goals
        go_wp2_with fail
        go_loopw [8] (fun i wr2 => ∃ m : Nat, m ≤ 2 ∧ i = .int .i64 m ∧ Below wo.heap.size wo wr2) (fun i _ => 2 - (intOf i).toNat)
        case atStart => exact ⟨0, by omega, rfl, Below.refl _ _⟩
        case round =>
          obtain ⟨m, hm, rfl, hbm⟩ := hrel
          have HBM := Lib.hid hbm
          clear hbm
          by_cases hm2 : m < 2
          · obtain ⟨wo2, rfl⟩ : ∃ wo2 : World, wo2 = wr := ⟨_, rfl⟩
            have hmd : decide ((m : Int) < 2) = true := decide_eq_true (by omega)
            go_wp2_with fail
            go_loopw [9] (fun i wr3 => ∃ j : Nat, j ≤ qs.length ∧ i = .int .i64 j ∧ Below wo.heap.size wo wr3) (fun i _ => qs.length - (intOf i).toNat)
            case atStart => exact ⟨0, by omega, rfl, HBM.out⟩
            case round =>
              obtain ⟨j, hj, rfl, hbj⟩ := hrel
              have HBJ := Lib.hid hbj
              have HSJ := Lib.hid (HS.out.keep HS.out.b.size hbj)
              clear hbj
              have hx0 := HBX.out _ _ _ HSJ.out.b HX0.out
              have hx1 := HBX.out _ _ _ HSJ.out.b HX1.out
              have hx2 := HBX.out _ _ _ HSJ.out.b HX2.out
              by_cases hgo2 : j < qs.length ∧ 0 < ps.length
              · obtain ⟨f1, f2⟩ := hgo2
                obtain ⟨ad3, cq, rfl, hlq, hKq, hcq⟩ := Kd.C_get (Kd.C_below (Kd.C_below HR3.out HB0.out) HSJ.out.b) (0, 0, 0, 0) (j : Int) (by omega) (by omega)
                have hgq : qs.getD (j : Int).toNat (0, 0, 0, 0) = qs[j] := by rw [Int.toNat_natCast, List.getD_eq_getElem?_getD, List.getElem?_eq_getElem f1]; rfl
                have hvq := HV3.out qs[j] (List.getElem_mem f1)
                rw [hgq] at hKq
                obtain ⟨q, hqd⟩ : ∃ q, q = qs[j] := ⟨_, rfl⟩
                rw [← hqd] at hKq hvq
                clear hqd hgq
                obtain ⟨q0, q1, q2, q3⟩ := q
                obtain ⟨_, _, rfl, rfl, _, _, rfl, rfl, _, _, rfl, rfl, rfl⟩ := hKq
                rw [Int.toNat_natCast] at hcq
                have hq0 : wr.cell? (ad3.add (j * 4)) = some (.int .i64 q0) := hcq 0 _ rfl
                have hq1 : wr.cell? ⟨(ad3.add (j * 4)).block, (ad3.add (j * 4)).off + 1, none⟩ = some (.int .i64 q1) := by rw [← add_field _ _ 1 (by omega)]; exact hcq 1 _ rfl
                have hq2 : wr.cell? ⟨(ad3.add (j * 4)).block, (ad3.add (j * 4)).off + 2, none⟩ = some (.int .i64 q2) := by rw [← add_field _ _ 2 (by omega)]; exact hcq 2 _ rfl
                have hq3 : wr.cell? ⟨(ad3.add (j * 4)).block, (ad3.add (j * 4)).off + 3, none⟩ = some (.int .i64 q3) := by rw [← add_field _ _ 3 (by omega)]; exact hcq 3 _ rfl
                obtain ⟨vq0, vq1, vq2⟩ := hvq
                have VQ1 : Hid (I64 q1) := vq1
                have VQ2 : Hid (I64 q2) := vq2
                have hm0 : 0 ≤ Go.bits .and .i64 q0 65535 := by rw [and_mask16 q0 vq0]; omega
                have hm1 : Go.bits .and .i64 q0 65535 ≤ 65535 := by rw [and_mask16 q0 vq0]; omega
                obtain ⟨kk, hkk⟩ : ∃ kk : Nat, Go.bits .and .i64 q0 65535 % (ps.length : Int) = (kk : Int) := ⟨(Go.bits .and .i64 q0 65535 % (ps.length : Int)).toNat, (Int.toNat_of_nonneg (Int.emod_nonneg _ (by omega))).symm⟩
                have hkn : kk < ps.length := by have := Int.emod_lt_of_pos (Go.bits .and .i64 q0 65535) (show (0 : Int) < (ps.length : Int) by omega); omega
                obtain ⟨adL, rfl, hcL⟩ := HRL.out.at_ (kk : Int) (by omega) (by omega)
                obtain ⟨adA, rfl, hcA⟩ := HRA.out.at_ (kk : Int) (by omega) (by omega)
                have hp : rdOf (0, 0) ps (kk : Int) = ps[kk] := by unfold rdOf; rw [Int.toNat_natCast, List.getD_eq_getElem?_getD, List.getElem?_eq_getElem hkn]; rfl
                rw [hp, Int.toNat_natCast] at hcL hcA
                have hmade := HSJ.out.m ps[kk] (List.getElem_mem hkn)
                obtain ⟨p, hpd⟩ : ∃ p, p = ps[kk] := ⟨_, rfl⟩
                rw [← hpd] at hcL hcA hmade
                obtain ⟨g, pi⟩ := p
                obtain ⟨hIR, p1, p2, hlh, hgB⟩ := hmade
                have p1 : pi < los.length := p1
                have p2 : pi < his.length := p2
                have hcL1 : wr.cell? (adL.add kk) = some (ptr g) := pw_cell_below HBJ.out hcL
                have hcA1 : wr.cell? (adA.add kk) = some (.int .i64 (pi : Int)) := pw_cell_below HBJ.out hcA
                obtain ⟨ad1, rfl, hc1⟩ := Kd.at_int (Kd.C_below (Kd.C_below HR1.out HB0.out) HSJ.out.b) pi (by omega) (by omega)
                obtain ⟨ad2, rfl, hc2⟩ := Kd.at_int (Kd.C_below (Kd.C_below HR2.out HB0.out) HSJ.out.b) pi (by omega) (by omega)
                rw [Int.toNat_natCast] at hc1 hc2
                have HASK : Hid (∀ W, Below wr.heap.size wr W → Calls Try.prog 29 #[ptr g, .int .i64 (rd los pi), .int .i64 (rd his pi), .agg #[.int .i64 q0, .int .i64 q1, .int .i64 q2, .int .i64 q3]] W fun e w' => e = .returned (.bool true) ∧ Below wr.heap.size wr w') := by
                  intro W hW
                  have h1 : I64 (rd los pi) := by rw [Total.rd_get los pi p1]; exact HV1.out _ (List.getElem_mem p1)
                  have h2 : I64 (rd his pi) := by rw [Total.rd_get his pi p2]; exact HV2.out _ (List.getElem_mem p2)
                  exact (asked_calls g _ _ q0 q1 q2 q3 W0 W (hIR.below hW hIR.lt) hgB (HSJ.out.b.trans (hW.mono HSJ.out.b.size)) hlh h1 h2 VQ1.out VQ2.out).mono fun e w' ⟨he, hb⟩ => ⟨he, hW.trans (hb.mono hW.size)⟩
                have b1 : (pi : Int) < (los.length : Int) := by omega
                have b2 : (pi : Int) < (his.length : Int) := by omega
                have b3 : (kk : Int) < (ps.length : Int) := by omega
                clear hcL hcA hcq hp hpd hIR hlh vq0 vq1 vq2
                have z0 := hx0
                have z1 := hx1
                have z2 := hx2
                have z3 := hcL1
                have z4 := hcA1
                have z5 := hc1
                have z6 := hc2
                have Z := Lib.hid (And.intro hx0 (And.intro hx1 (And.intro hx2 (And.intro hcL1 (And.intro hcA1 (And.intro hc1 (And.intro hc2 (And.intro hq0 (And.intro hq1 (And.intro hq2 hq3))))))))))
                clear z0 z1 z2 z3 z4 z5 z6
                go_wp2_with fail
                go_region_held3 (fun w' => w'.cell? ⟨w.heap.size, 0, none⟩ = some (.slice (some ad1) los.length c1) ∧ w'.cell? ⟨w.heap.size, 1, none⟩ = some (.slice (some ad2) his.length c2) ∧ w'.cell? ⟨w.heap.size, 2, none⟩ = some (.slice (some ad3) qs.length c3) ∧ w'.cell? (adL.add kk) = some (ptr g) ∧ w'.cell? (adA.add kk) = some (.int .i64 (pi : Int)) ∧ w'.cell? (ad1.add pi) = some (.int .i64 (rd los pi)) ∧ w'.cell? (ad2.add pi) = some (.int .i64 (rd his pi)) ∧ w'.cell? (ad3.add (j * 4)) = some (.int .i64 q0) ∧ w'.cell? ⟨(ad3.add (j * 4)).block, (ad3.add (j * 4)).off + 1, none⟩ = some (.int .i64 q1) ∧ w'.cell? ⟨(ad3.add (j * 4)).block, (ad3.add (j * 4)).off + 2, none⟩ = some (.int .i64 q2) ∧ w'.cell? ⟨(ad3.add (j * 4)).block, (ad3.add (j * 4)).off + 3, none⟩ = some (.int .i64 q3))
                  (first | go_keep | (exact ⟨pw_cell_below hb9.out Z.out.1, pw_cell_below hb9.out Z.out.2.1, pw_cell_below hb9.out Z.out.2.2.1, pw_cell_below hb9.out Z.out.2.2.2.1, pw_cell_below hb9.out Z.out.2.2.2.2.1, pw_cell_below hb9.out Z.out.2.2.2.2.2.1, pw_cell_below hb9.out Z.out.2.2.2.2.2.2.1, pw_cell_below hb9.out Z.out.2.2.2.2.2.2.2.1, pw_cell_below hb9.out Z.out.2.2.2.2.2.2.2.2.1, pw_cell_below hb9.out Z.out.2.2.2.2.2.2.2.2.2.1, pw_cell_below hb9.out Z.out.2.2.2.2.2.2.2.2.2.2⟩))
                  (first | (go_at_call 29; refine (HASK.out _ (by repeat (first | exact Below.refl _ _ | apply below_drew | apply pw_below_drewN))).mono ?_; rintro e w9 ⟨rfl, hb9'⟩; have hb9 := Lib.hid hb9'; clear hb9'))
                go_wp2_with fail
                go_roundw
                case rel => exact ⟨j + 1, by omega, by go_num, (by repeat (first | exact HBJ.out.trans (hb9.out.mono HBJ.out.size) | apply below_drew | apply pw_below_drewN))⟩
                case measure => simp [intOf]; omega
              · have hcase2 : (¬ j < qs.length) ∨ (j < qs.length ∧ ¬ (0 : Int) < (ps.length : Int)) := by omega
                clear hgo2
                rcases hcase2 with f1 | ⟨f1, f2⟩
                all_goals
                  go_wp2_with fail
                  go_roundw
                  case rel => exact ⟨m + 1, by omega, by go_num, HBJ.out⟩
                  case measure => simp [intOf]; omega
          · have hIR : IsR (wr.alloc (.cells #[.int .i64 (-2), .int .i64 7] 89)) wr.heap.size (-2) 7 := heap_alloc_new wr _
            have C7 := Lib.hid (has_calls wr.heap.size (-2) 7 7 _ hIR true (by decide))
            have C8 := Lib.hid (has_calls wr.heap.size (-2) 7 8 _ hIR false (by decide))
            have HE := Lib.hid (below_alloc (HEX.out wr (HS.out.keep HS.out.b.size HBM.out)) (.cells #[.int .i64 (-2), .int .i64 7] 89))
            clear hIR
            go_wp2_with fail
            refine (new_yes (-2) 7 wr (by decide)).mono ?_; rintro e w' ⟨rfl, rfl⟩
            go_wp2_with fail
            refine (num_calls 0 _).mono ?_; rintro e w' ⟨rfl, rfl⟩
            go_wp2_with fail
            refine C7.out.mono ?_; rintro e w' ⟨rfl, rfl⟩
            go_wp2_with fail
            refine C8.out.mono ?_; rintro e w' ⟨rfl, rfl⟩
            go_wp2_with fail
            go_ret
            exact ⟨rfl, HE.out⟩
theorem in64 {n : Int} (h : (Lit.int .i64 n).wf = true) : I64 n := by
  simpa [Lit.wf, IntKind.min, IntKind.max, IntKind.signed, IntKind.bits, I64] using h
abbrev KI := Kd.int .i64
abbrev V (n : Int) : Prop := (Lit.int .i64 n).wf = true
theorem opens_ints : Opens Try.prog 49 (Kd.slice 2 KI) (fun l => ∀ a, a ∈ l → V a) (fun l => sumB (fun _ => 1) l + 1) := opens_slice Try.underlying49 (by kernel_rfl) (opens_int Try.underlying2 (by kernel_rfl))
theorem opens_Ask : Opens Try.prog 72 (Kd.pair KI (Kd.pair KI (Kd.pair KI KI))) (fun x => V x.1 ∧ V x.2.1 ∧ V x.2.2.1 ∧ V x.2.2.2) (fun x => 1 + (1 + (1 + 1)) + 1) :=
  opens_struct Try.underlying72 (by kernel_rfl) (opensF_cons (opens_int Try.underlying3 (by kernel_rfl)) (opensF_cons (opens_int Try.underlying2 (by kernel_rfl)) (opensF_cons (opens_int Try.underlying2 (by kernel_rfl)) (opensF_one (opens_int Try.underlying3 (by kernel_rfl))) rfl) rfl) rfl)
theorem opens_Ranges : Opens Try.prog 63 (Kd.pair (Kd.slice 2 KI) (Kd.pair (Kd.slice 2 KI) (Kd.slice 72 (Kd.pair KI (Kd.pair KI (Kd.pair KI KI))))))
    (fun x => (∀ a, a ∈ x.1 → V a) ∧ (∀ a, a ∈ x.2.1 → V a) ∧ ∀ q, q ∈ x.2.2 → V q.1 ∧ V q.2.1 ∧ V q.2.2.1 ∧ V q.2.2.2) (fun x => (sumB (fun _ => 1) x.1 + 1) + ((sumB (fun _ => 1) x.2.1 + 1) + (sumB (fun _ => 1 + (1 + (1 + 1)) + 1) x.2.2 + 1)) + 1) :=
  by
    have ho := opens_struct (P := Try.prog) Try.underlying63 (by kernel_rfl) (opensF_cons opens_ints (opensF_cons opens_ints (opensF_one (opens_slice Try.underlying61 (by kernel_rfl) opens_Ask)) rfl) rfl)
    exact ho
theorem contract {H : Type} {enc : TypeId × Value → H} (W : World) (base : Nat) (v0 : Value) (d0 : DataW H) (p0 : List MemPlace) (hok : Value.okWide Try.prog W .any base 63 v0)
    (h0 : DataW.Trod enc Try.prog W 0 (fun _ => true) true 63 v0 d0 p0) (hlt : ∀ x ∈ p0, x.block < W.heap.size) (hsz : (DataW.weightsEach Try.prog [63] [d0]).all (· ≤ reachBytes) = true) :
    Calls Try.prog 10 #[v0] W fun e W' => e = .returned (.bool true) ∧ Below W.heap.size W W' := by
  obtain ⟨⟨los, his, qs⟩, cs, rfl, hK, hV, _⟩ := open_arg Try.underlying63 opens_Ranges hok h0
  obtain ⟨_, _, hcs, ⟨A1, c1, rfl, _, hC1⟩, _, _, rfl, ⟨A2, c2, rfl, _, hC2⟩, ⟨A3, c3, rfl, _, hC3⟩⟩ := hK
  obtain rfl : cs = #[.slice A1 los.length c1, .slice A2 his.length c2, .slice A3 qs.length c3] := by cases cs; simp at hcs; rw [hcs]
  exact walk los his qs A1 A2 A3 c1 c2 c3 W hC1 hC2 hC3 (fun a h => in64 (hV.1 a h)) (fun a h => in64 (hV.2.1 a h)) (fun q h => ⟨in64 (hV.2.2 q h).1, in64 (hV.2.2 q h).2.1, in64 (hV.2.2 q h).2.2.1⟩)
end Go.Proofs.Ytidofjmflpcglaa.SumRanges
