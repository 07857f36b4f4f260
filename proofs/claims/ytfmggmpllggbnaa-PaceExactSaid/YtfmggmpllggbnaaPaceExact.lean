/- PaceExact: twelve paces in turns: every answer is the document's. -/
import Derived.Test.YtfmggmpllggbnaaPaceTwo
import Derived.Test.YtfmggmpllggbnaaOpen
namespace Go.Proofs.Ytfmggmpllggbnaa.PaceExact
open Go.RowKit Go.Proofs.Ytfmggmpllggbnaa.Pace Go.Proofs.YtfmggmpllggbnaaW.PrintWords Go.Proofs.Ytfmggmpllggbnaa.Opn
set_option linter.unusedVariables false
set_option linter.unusedSimpArgs false
abbrev I64 (a : Int) : Prop := -9223372036854775808 ≤ a ∧ a ≤ 9223372036854775807
abbrev KO := Kd.pair (Kd.int .i64) (Kd.pair (Kd.int .i64) (Kd.int .i64))
abbrev nil12 : Array Value := #[.pointer none, .pointer none, .pointer none, .pointer none, .pointer none, .pointer none, .pointer none, .pointer none, .pointer none, .pointer none, .pointer none, .pointer none]
set_option maxHeartbeats 6400000 in
set_option maxRecDepth 100000 in
theorem walk (c0 c1 : Int) (os : List (Int × Int × Int)) (A : Option Addr) (c : Nat) (w : World)
    (hr : KO.C w A os.length os) (hv : ∀ q, q ∈ os → I64 q.1 ∧ I64 q.2.1 ∧ I64 q.2.2) (hc0 : I64 c0) (hc1 : I64 c1) :
    Calls Try.prog 3 #[.agg #[.int .i64 c0, .int .i64 c1, .slice A os.length c]] w fun e w' => e = .returned (.bool true) ∧ Below w.heap.size w w' := by
  have hn := Kd.C_max hr
  have HR := Lib.hid hr
  have HV := Lib.hid hv
  have HB0 : Hid (Below w.heap.size w (w.alloc (.cells #[.int .i64 c0, .int .i64 c1, .slice A os.length c] 25))) := (Below.refl _ _).alloc (Nat.le_refl _) _
  have hbox0 : (w.alloc (.cells #[.int .i64 c0, .int .i64 c1, .slice A os.length c] 25)).cell? ⟨w.heap.size, 0, none⟩ = some (.int .i64 c0) := by go_simp
  have hbox1 : (w.alloc (.cells #[.int .i64 c0, .int .i64 c1, .slice A os.length c] 25)).cell? ⟨w.heap.size, 1, none⟩ = some (.int .i64 c1) := by go_simp
  have hbox2 : (w.alloc (.cells #[.int .i64 c0, .int .i64 c1, .slice A os.length c] 25)).cell? ⟨w.heap.size, 2, none⟩ = some (.slice A os.length c) := by go_simp
  obtain ⟨W0, hW0⟩ : ∃ W0, W0 = w.alloc (.cells #[.int .i64 c0, .int .i64 c1, .slice A os.length c] 25) := ⟨_, rfl⟩
  have hsz : W0.heap.size = w.heap.size + 1 := by rw [hW0]; simp
  rw [← hW0] at hbox0 hbox1 hbox2 HB0
  have HX0 := Lib.hid hbox0
  have HX1 := Lib.hid hbox1
  have HX2 := Lib.hid hbox2
  have HW0 := Lib.hid hW0
  have HSZ := Lib.hid hsz
  have HBX : Hid (∀ (W : World) (j : Nat) (v : Value), Below W0.heap.size W0 W → W0.cell? ⟨w.heap.size, j, none⟩ = some v → W.cell? ⟨w.heap.size, j, none⟩ = some v) := fun W j v hb h => (hb.cell (p := ⟨w.heap.size, j, none⟩) (by have := HSZ.out; simp; omega)).trans h
  have HC0 : Hid (I64 c0) := hc0
  have HC1 : Hid (I64 c1) := hc1
  clear hW0 hsz hbox0 hbox1 hbox2 hr hv hc0 hc1
  have INI : Hid (Inv W0 ((W0.alloc (.cells nil12 27)).alloc (.cells nil12 29)) (w.heap.size + 1) 0 0 (fun _ => 0) (fun _ => 0)) := by
    rw [← HSZ.out]
    refine ⟨⟨nil12, ?_, rfl, fun i hi => by omega⟩, ⟨nil12, ?_, rfl, fun i hi => by omega⟩, fun i hi => by omega, fun i j hi => by omega, ?_⟩
    · exact (Below.heap_alloc _ _ _ (by simp)).trans (heap_alloc_new W0 _)
    · have := heap_alloc_new (W0.alloc (.cells nil12 27)) (.cells nil12 29)
      simpa using this
    · exact ((Below.refl _ _).alloc (Nat.le_refl _) _).alloc (by simp) _
  go_enter Try.func3, Try.ntmps3
  go_wp2_with fail
  rw [← HW0.out]
  go_wp2_with fail
  go_loopw [5] (fun i wr => ∃ (k : Nat) (pa pb : Nat → Nat), i = .int .i64 k ∧ k ≤ 12 ∧ Inv W0 wr (w.heap.size + 1) k 0 pa pb) (fun i _ => 12 - (intOf i).toNat)
  case atStart => exact ⟨0, _, _, rfl, by omega, INI.out⟩
  case round =>
    obtain ⟨k, pa, pb, rfl, hk, hin⟩ := hrel
    have HIN := Lib.hid hin
    clear hin
    have hbx : Below W0.heap.size W0 wr := by rw [HSZ.out]; exact HIN.out.b
    have HBXX := Lib.hid hbx
    have hx0 := HBX.out _ _ _ hbx HX0.out
    have hx1 := HBX.out _ _ _ hbx HX1.out
    clear hbx
    by_cases hlt : k < 12
    · obtain ⟨r, hr2, hrem⟩ : ∃ r : Nat, r < 2 ∧ Int.tmod (k : Int) 2 = (r : Int) := ⟨k % 2, Nat.mod_lt _ (by omega), by rw [Int.tmod_eq_emod_of_nonneg (by omega)]; omega⟩
      obtain ⟨cc, hcc, hci⟩ : ∃ cc, wr.cell? ⟨w.heap.size, r, none⟩ = some (.int .i64 cc) ∧ I64 cc := by
        have : r = 0 ∨ r = 1 := by omega
        rcases this with rfl | rfl
        · exact ⟨c0, hx0, HC0.out⟩
        · exact ⟨c1, hx1, HC1.out⟩
      clear hx0 hx1
      by_cases hin : 1 ≤ cc ∧ cc ≤ 64
      · have CM := Lib.hid (made_yes cc wr hin)
        go_wp2_with fail
        refine CM.out.mono ?_; rintro e w1 ⟨a, b, rfl, ht, ha, hb, hbb⟩
        have HP := Lib.hid (HIN.out.put hlt (m' := k + 1) (by simp) hbb ha hb ht (Int.le_refl _) HIN.out.d.lt)
        have HK1 := Lib.hid (HIN.out.keep hbb (Int.le_refl _))
        have f1 := HK1.out.c.frozen k
        have f2 := HK1.out.d.frozen k
        obtain ⟨v1, e1⟩ := HK1.out.c.any k hlt
        obtain ⟨v2, e2⟩ := HK1.out.d.any k hlt
        clear ht ha hb hbb
        go_wp2_with fail
        go_roundw
        case rel => exact ⟨k + 1, _, _, by go_num, by omega, HP.out⟩
        case measure => simp [intOf]; omega
      · have CM := Lib.hid (made_no cc wr (by omega))
        have CI := Lib.hid (into_calls cc 64 · hci (by omega))
        obtain ⟨m1, hm1⟩ : ∃ m, m = cc % 64 := ⟨_, rfl⟩
        have hm1r : 0 ≤ m1 ∧ m1 < 64 := by omega
        rw [← hm1] at CI
        clear hm1
        have CY := Lib.hid (made_yes (1 + m1) wr (by omega))
        go_wp2_with fail
        refine CM.out.mono ?_; rintro e w1 ⟨rfl, rfl⟩
        go_wp2_with fail
        refine (CI.out _).mono ?_; rintro e w1 ⟨rfl, rfl⟩
        go_wp2_with fail
        refine CY.out.mono ?_; rintro e w1 ⟨a, b, rfl, ht, ha, hb, hbb⟩
        have HP := Lib.hid (HIN.out.put hlt (m' := k + 1) (by simp) hbb ha hb ht (Int.le_refl _) HIN.out.d.lt)
        have HK1 := Lib.hid (HIN.out.keep hbb (Int.le_refl _))
        have f1 := HK1.out.c.frozen k
        have f2 := HK1.out.d.frozen k
        obtain ⟨v1, e1⟩ := HK1.out.c.any k hlt
        obtain ⟨v2, e2⟩ := HK1.out.d.any k hlt
        clear ht ha hb hbb
        go_wp2_with fail
        go_roundw
        case rel => exact ⟨k + 1, _, _, by go_num, by omega, HP.out⟩
        case measure => simp [intOf]; omega
    · have HIN12 : Hid (Inv W0 wr (w.heap.size + 1) 12 0 pa pb) := by
        have hk12 : k = 12 := by omega
        rw [← hk12]; exact HIN.out
      clear hx0 hx1
      obtain ⟨wo, rfl⟩ : ∃ wo : World, wo = wr := ⟨_, rfl⟩
      go_wp2_with fail
      go_loopw [9] (fun i wr => ∃ (k : Nat) (pa pb : Nat → Nat), i = .int .i64 k ∧ k ≤ os.length ∧ k ≤ 2000 ∧ Inv W0 wr (w.heap.size + 1) 12 k pa pb) (fun i _ => 2000 - (intOf i).toNat)
      case atStart => exact ⟨0, _, _, rfl, by omega, by omega, HIN12.out⟩
      case round =>
        obtain ⟨k, pa, pb, rfl, hk, hk2, hin⟩ := hrel
        have HI2 := Lib.hid hin
        clear hin
        have hbx : Below W0.heap.size W0 wr := by rw [HSZ.out]; exact HI2.out.b
        have HBX2 := Lib.hid hbx
        have hx2 := HBX.out _ _ _ hbx HX2.out
        clear hbx
        by_cases hgo : k < os.length ∧ k < 2000
        · obtain ⟨g1, g2⟩ := hgo
          obtain ⟨ad, cq, rfl, hlq, hKq, hcq⟩ := Kd.C_get (Kd.C_below (Kd.C_below HR.out HB0.out) HBX2.out) (0, 0, 0) (k : Int) (by omega) (by omega)
          have hgq : os.getD (k : Int).toNat (0, 0, 0) = os[k] := by rw [Int.toNat_natCast, List.getD_eq_getElem?_getD, List.getElem?_eq_getElem g1]; rfl
          have hvq := HV.out os[k] (List.getElem_mem g1)
          rw [hgq] at hKq
          obtain ⟨q, hqd⟩ : ∃ q, q = os[k] := ⟨_, rfl⟩
          rw [← hqd] at hKq hvq
          clear hqd hgq
          obtain ⟨kind, which, cap⟩ := q
          obtain ⟨_, _, rfl, rfl, _, _, rfl, rfl, rfl⟩ := hKq
          rw [Int.toNat_natCast] at hcq
          have hq0 : wr.cell? (ad.add (k * 3)) = some (.int .i64 kind) := hcq 0 _ rfl
          have hq1 : wr.cell? ⟨(ad.add (k * 3)).block, (ad.add (k * 3)).off + 1, none⟩ = some (.int .i64 which) := by rw [← add_field _ _ 1 (by omega)]; exact hcq 1 _ rfl
          have hq2 : wr.cell? ⟨(ad.add (k * 3)).block, (ad.add (k * 3)).off + 2, none⟩ = some (.int .i64 cap) := by rw [← add_field _ _ 2 (by omega)]; exact hcq 2 _ rfl
          obtain ⟨hkind, hwhich, hcap⟩ := hvq
          have CI := Lib.hid (into_calls which 12 · hwhich (by omega))
          obtain ⟨kk, hkk, hkl⟩ : ∃ kk : Nat, which % 12 = (kk : Int) ∧ kk < 12 := ⟨(which % 12).toNat, by omega, by omega⟩
          rw [hkk] at CI
          have HCAP : Hid (I64 cap) := hcap
          have b1 : (k : Int) < (os.length : Int) := by omega
          clear hcq hkind hwhich hcap hkk
          go_wp2_with fail
          obtain ⟨W1, hW1⟩ : ∃ W1, W1 = wr.alloc (.cells #[.int .i64 kind, .int .i64 which, .int .i64 cap] 34) := ⟨_, rfl⟩
          have HI3 : Hid (Inv W0 W1 (w.heap.size + 1) 12 k pa pb) := by rw [hW1]; exact HI2.out.keep ((Below.refl _ _).alloc (Nat.le_refl _) _) (Int.le_refl _)
          have o0 : W1.cell? ⟨wr.heap.size, 0, none⟩ = some (.int .i64 kind) := by rw [hW1]; go_simp
          have o2 : W1.cell? ⟨wr.heap.size, 2, none⟩ = some (.int .i64 cap) := by rw [hW1]; go_simp
          rw [← hW1]
          clear hW1 hq0 hq1 hq2 hx2
          refine (CI.out _).mono ?_; rintro e w1 ⟨rfl, rfl⟩
          have hbxk : Hid (Below W0.heap.size W0 W1) := by rw [HSZ.out]; exact HI3.out.b
          have ca := HI3.out.c.cell kk hkl
          have cb := HI3.out.d.cell kk hkl
          have i1 : (0 : Int) ≤ (kk : Int) := by omega
          have i2 : (kk : Int) < 12 := by omega
          have hcase : kind = 1 ∨ kind = 2 ∨ kind = 3 ∨ kind = 4 ∨ (kind ≠ 1 ∧ kind ≠ 2 ∧ kind ≠ 3 ∧ kind ≠ 4) := by omega
          rcases hcase with rfl | rfl | rfl | rfl | ⟨k1, k2, k3, k4⟩
          · obtain ⟨r, ht⟩ := HI3.out.tick hkl (by omega)
            have HT := Lib.hid ht
            clear ht
            go_wp2_with fail
            go_region_held3 (fun w' => w'.cell? ⟨w.heap.size + 1, kk, none⟩ = some (ptr (pa kk)) ∧ w'.cell? ⟨w.heap.size + 1 + 1, kk, none⟩ = some (ptr (pb kk))) (first | go_keep | exact ⟨ca2, cb2⟩ | exact ⟨ca3, cb3⟩)
              (first
                | (go_at_call 11; refine (HT.out _ ?hh).mono ?_; (case hh => first | exact Same.refl _ | exact Same.drew _ | exact Same.drewN _ _); rintro e w2 ⟨rfl, ca2, cb2, ht2⟩; have HT2 := Lib.hid ht2; clear ht2)
                | (go_at_call 12; refine (HT2.out _ ?hh).mono ?_; (case hh => first | exact Same.refl _ | exact Same.drew _ | exact Same.drewN _ _); rintro e w3 ⟨rfl, hi3⟩; have HI4 := Lib.hid hi3; have ca3 := hi3.c.cell kk hkl; have cb3 := hi3.d.cell kk hkl; clear hi3))
            go_wp2_with fail
            go_roundw
            case rel => exact ⟨k + 1, pa, pb, by go_num, by omega, by omega, HI4.out.keep ((Same.refl _).below _) (by omega)⟩
            case measure => simp [intOf]; omega
          · have HT := Lib.hid (HI3.out.reset hkl (by omega))
            have ca := HI3.out.c.cell kk hkl
            go_wp2_with fail
            refine HT.out.mono ?_; rintro e w2 ⟨rfl, ca2, cb2, ht2⟩
            have HT2 := Lib.hid ht2
            clear ht2
            go_wp2_with fail
            refine HT2.out.mono ?_; rintro e w3 ⟨rfl, hi3⟩
            have HI4 := Lib.hid hi3
            clear hi3
            go_wp2_with fail
            go_roundw
            case rel => exact ⟨k + 1, pa, pb, by go_num, by omega, by omega, HI4.out⟩
            case measure => simp [intOf]; omega
          · obtain ⟨r, ht⟩ := HI3.out.wait hkl (by omega)
            have HT := Lib.hid ht
            clear ht
            go_wp2_with fail
            go_region_held3 (fun w' => w'.cell? ⟨w.heap.size + 1, kk, none⟩ = some (ptr (pa kk)) ∧ w'.cell? ⟨w.heap.size + 1 + 1, kk, none⟩ = some (ptr (pb kk))) (first | go_keep | exact ⟨ca3, cb3⟩)
              (first
                | (go_at_call 15; refine (HT.out _ ?hh).mono ?_; (case hh => first | exact Same.refl _ | exact Same.drew _ | exact Same.drewN _ _); rintro e w2 ⟨rfl, rfl, ht2⟩; have HT2 := Lib.hid ht2; clear ht2)
                | (go_at_call 16; refine (HT2.out _ ?hh).mono ?_; (case hh => first | exact Same.refl _ | exact Same.drew _ | exact Same.drewN _ _); rintro e w3 ⟨rfl, hi3⟩; have HI4 := Lib.hid hi3; have ca3 := hi3.c.cell kk hkl; have cb3 := hi3.d.cell kk hkl; clear hi3))
            go_wp2_with fail
            go_roundw
            case rel => exact ⟨k + 1, pa, pb, by go_num, by omega, by omega, HI4.out.keep ((Same.refl _).below _) (by omega)⟩
            case measure => simp [intOf]; omega
          · by_cases hin : 1 ≤ cap ∧ cap ≤ 64
            · have CM := Lib.hid (made_yes cap W1 hin)
              go_wp2_with fail
              refine CM.out.mono ?_; rintro e w1 ⟨a, b, rfl, ht, ha, hb, hbb⟩
              have HP := Lib.hid (HI3.out.put (N' := (k : Int) + 1) hkl (m' := 12) (by split <;> omega) hbb ha hb (ht.below ((Same.refl _).below _) (show (0 : Int) ≤ (k : Int) + 1 by omega)) (by omega) HI3.out.d.lt)
              have HK1 := Lib.hid (HI3.out.keep hbb (Int.le_refl _))
              have f1 := HK1.out.c.frozen kk
              have f2 := HK1.out.d.frozen kk
              obtain ⟨v1, e1⟩ := HK1.out.c.any kk hkl
              obtain ⟨v2, e2⟩ := HK1.out.d.any kk hkl
              clear ht ha hb hbb
              go_wp2_with fail
              go_roundw
              case rel => exact ⟨k + 1, _, _, by go_num, by omega, by omega, HP.out⟩
              case measure => simp [intOf]; omega
            · have CM := Lib.hid (made_no cap W1 (by omega))
              go_wp2_with fail
              refine CM.out.mono ?_; rintro e w1 ⟨rfl, rfl⟩
              go_wp2_with fail
              go_roundw
              case rel => exact ⟨k + 1, pa, pb, by go_num, by omega, by omega, HI3.out.keep ((Same.refl _).below _) (by omega)⟩
              case measure => simp [intOf]; omega
          · have d1 : (kind == 1) = false := by rw [beq_eq_false_iff_ne]; exact k1
            have d2 : (kind == 2) = false := by rw [beq_eq_false_iff_ne]; exact k2
            have d3 : (kind == 3) = false := by rw [beq_eq_false_iff_ne]; exact k3
            have d4 : (kind == 4) = false := by rw [beq_eq_false_iff_ne]; exact k4
            go_wp2_with fail
            go_roundw
            case rel => exact ⟨k + 1, pa, pb, by go_num, by omega, by omega, HI3.out.keep ((Same.refl _).below _) (by omega)⟩
            case measure => simp [intOf]; omega
        · have hcase : (¬ k < os.length) ∨ (k < os.length ∧ ¬ k < 2000) := by omega
          have HI5 := Lib.hid (HI2.out.keep ((Same.refl _).below _) (show (k : Int) ≤ 2000 by omega))
          clear hgo
          obtain ⟨wo2, rfl⟩ : ∃ wo2 : World, wo2 = wr := ⟨_, rfl⟩
          rcases hcase with g1 | ⟨g1, g2⟩
          all_goals
            go_wp2_with fail
            go_loopw [15] (fun i wr => ∃ j : Nat, i = .int .i64 j ∧ j ≤ 12 ∧ Inv W0 wr (w.heap.size + 1) 12 2000 pa pb) (fun i _ => 12 - (intOf i).toNat)
            case atStart => exact ⟨0, rfl, by omega, HI5.out⟩
            case round =>
              obtain ⟨j, rfl, hj, hij⟩ := hrel
              have HIJ := Lib.hid hij
              clear hij
              by_cases hj12 : j < 12
              · obtain ⟨r, ht⟩ := HIJ.out.wait hj12 (by omega)
                have HT := Lib.hid ht
                have ca := HIJ.out.c.cell j hj12
                have cb := HIJ.out.d.cell j hj12
                have i1 : (0 : Int) ≤ (j : Int) := by omega
                have i2 : (j : Int) < 12 := by omega
                clear ht
                go_wp2_with fail
                go_region_held3 (fun w' => w'.cell? ⟨w.heap.size + 1, j, none⟩ = some (ptr (pa j)) ∧ w'.cell? ⟨w.heap.size + 1 + 1, j, none⟩ = some (ptr (pb j))) (first | go_keep | exact ⟨ca3, cb3⟩)
                  (first
                    | (go_at_call 15; refine (HT.out _ ?hh).mono ?_; (case hh => first | exact Same.refl _ | exact Same.drew _ | exact Same.drewN _ _); rintro e w2 ⟨rfl, rfl, ht2⟩; have HT2 := Lib.hid ht2; clear ht2)
                    | (go_at_call 16; refine (HT2.out _ ?hh).mono ?_; (case hh => first | exact Same.refl _ | exact Same.drew _ | exact Same.drewN _ _); rintro e w3 ⟨rfl, hi3⟩; have HI4 := Lib.hid hi3; have ca3 := hi3.c.cell j hj12; have cb3 := hi3.d.cell j hj12; clear hi3))
                go_wp2_with fail
                go_roundw
                case rel => exact ⟨j + 1, by go_num, by omega, HI4.out.keep ((Same.refl _).below _) (Int.le_refl _)⟩
                case measure => simp [intOf]; omega
              · have HE : Hid (Below w.heap.size w wr) := HB0.out.trans (HIJ.out.b.mono (by omega))
                go_wp2_with fail
                go_ret
                exact ⟨rfl, HE.out⟩
theorem in64 {n : Int} (h : (Lit.int .i64 n).wf = true) : I64 n := by
  simpa [Lit.wf, IntKind.min, IntKind.max, IntKind.signed, IntKind.bits, I64] using h
abbrev KI := Kd.int .i64
abbrev V (n : Int) : Prop := (Lit.int .i64 n).wf = true
theorem opens_Op : Opens Try.prog 34 KO (fun x => V x.1 ∧ V x.2.1 ∧ V x.2.2) (fun x => 1 + (1 + 1) + 1) := by
  have ho := opens_struct (P := Try.prog) Try.underlying34 (by kernel_rfl) (opensF_cons (opens_int Try.underlying3 (by kernel_rfl)) (opensF_cons (opens_int Try.underlying3 (by kernel_rfl)) (opensF_one (opens_int Try.underlying3 (by kernel_rfl))) rfl) rfl)
  exact ho
theorem opens_Script : Opens Try.prog 25 (Kd.pair (Kd.pair KI KI) (Kd.slice 34 KO)) (fun x => (V x.1.1 ∧ V x.1.2) ∧ ∀ q, q ∈ x.2 → V q.1 ∧ V q.2.1 ∧ V q.2.2) (fun x => (1 + 1 + 1) + (sumB (fun _ => 1 + (1 + 1) + 1) x.2 + 1) + 1) := by
  have ho := opens_struct (P := Try.prog) Try.underlying25 (by kernel_rfl) (opensF_cons (opens_two Try.underlying22 (by kernel_rfl) (opens_int Try.underlying3 (by kernel_rfl))) (opensF_one (opens_slice Try.underlying23 (by kernel_rfl) opens_Op)) rfl)
  exact ho
set_option maxRecDepth 20000 in
theorem contract {H : Type} {enc : TypeId × Value → H} (W : World) (base : Nat) (v0 : Value) (d0 : DataW H) (p0 : List MemPlace) (hok : Value.okWide Try.prog W .any base 25 v0)
    (h0 : DataW.Trod enc Try.prog W 0 (fun _ => true) true 25 v0 d0 p0) (hlt : ∀ x ∈ p0, x.block < W.heap.size) (hsz : (DataW.weightsEach Try.prog [25] [d0]).all (· ≤ reachBytes) = true) :
    Calls Try.prog 3 #[v0] W fun e W' => e = .returned (.bool true) ∧ Below W.heap.size W W' := by
  obtain ⟨⟨⟨c0, c1⟩, os⟩, cs, rfl, hK, hV, _⟩ := open_arg Try.underlying25 opens_Script hok h0
  obtain ⟨_, _, hcs, ⟨_, _, rfl, rfl, rfl⟩, ⟨A1, c, rfl, _, hC1⟩⟩ := hK
  obtain rfl : cs = #[.int .i64 c0, .int .i64 c1, .slice A1 os.length c] := by cases cs; simp at hcs; rw [hcs]
  exact walk c0 c1 os A1 c W hC1 (fun q h => ⟨in64 (hV.2 q h).1, in64 (hV.2 q h).2.1, in64 (hV.2 q h).2.2⟩) (in64 hV.1.1) (in64 hV.1.2)
end Go.Proofs.Ytfmggmpllggbnaa.PaceExact
