/- The document's Reader: a number in its shortest form. -/
import Derived.Test.YtoeiaimoppmjdaaEye3
import Derived.Test.YtoeiaimoppmjdaaTexts
import Derived.Test.YtoeiaimoppmjdaaEq
namespace Go.Proofs.Ytoeiaimoppmjdaa.Wr
open Go.RowKit Go.Proofs.YtoeiaimoppmjdaaW.PrintWords Go.Proofs.Ytoeiaimoppmjdaa.Bytes
open Go.Sort (grow)
set_option linter.unusedVariables false
set_option linter.unusedSimpArgs false
theorem eleft_ok (xs : List Int) (a : Nat) : (xs.drop a).length = xs.length - a := by simp
set_option maxRecDepth 20000 in
theorem evar_stop (W : World) (base g : Nat) (A : Option Addr) (c : Nat) (xs : List Int) (s : RS) (most : Int) (h : Eyd W base g A c xs s) (hm : s.met ≠ 0) :
    Calls Try.prog 38 #[.pointer (some ⟨g, 0, none⟩), .int .u64 most] W fun e w' => e = .returned (.int .u64 0) ∧ EyTo W w' base g A c xs s := by
  obtain ⟨a, m⟩ := s
  have c2 := blk_cell h.blk 2
  simp at c2
  have hm' : ¬ errN m = 0 := fun e => hm (errN_zero.1 e)
  have hm2 : (errN m == 0) = false := by simpa using hm'
  have FIN := Lib.hid (EyTo.refl h)
  clear h hm hm'
  go_enter Try.func38, Try.ntmps38
  go_wp2_with fail
  go_ret
  exact ⟨rfl, FIN.out⟩
set_option maxRecDepth 20000 in
theorem evar_none (W : World) (base g : Nat) (A : Option Addr) (c : Nat) (xs : List Int) (a : Nat) (most : Int) (h : Eyd W base g A c xs ⟨a, 0⟩) (hs : RS.Ok ⟨a, 0⟩ xs) (hb : base ≤ W.heap.size) (hxl : xs.length ≤ 140737488355328) (hx : Byt xs) (hj : lastJ (xs.drop a) 0 = none) :
    Calls Try.prog 38 #[.pointer (some ⟨g, 0, none⟩), .int .u64 most] W fun e w' => e = .returned (.int .u64 0) ∧ EyTo W w' base g A c xs ⟨a, if (xs.drop a).length < 10 then 1 else 2⟩ := by
  have c2 := blk_cell h.blk 2
  simp at c2
  rw [show errN 0 = 0 from rfl] at c2
  have CL := Lib.hid (elast_calls W base g A c xs ⟨a, 0⟩ h hs hxl hx)
  have e1 : lastOf xs a = -1 := by unfold lastOf; rw [hj]
  rw [show (RS.mk a 0).at_ = a from rfl, e1] at CL
  have H := Lib.hid h
  have HB := Lib.hid hb
  have hal : a ≤ xs.length := hs.at_
  have HS : Hid (RS.Ok ⟨a, 2⟩ xs) := ⟨hs.at_, by simp⟩
  clear h hs hb hx hj e1
  by_cases hl : (xs.length : Int) - (a : Int) < 10
  · have e : (if (xs.drop a).length < 10 then 1 else 2) = 1 := by rw [if_pos]; simp; omega
    rw [e]
    have t1 : decide ((xs.length : Int) - (a : Int) < 10) = true := decide_eq_true hl
    clear e hl
    go_enter Try.func38, Try.ntmps38
    go_wp2_with fail
    refine CL.out.mono ?_; rintro e w1 ⟨rfl, hb1⟩
    have h1 := (EyTo.refl H.out).below HB.out hb1
    have k2 := blk_frozen h1.ey.blk 2
    have h2 := eyto_met h1 2
    have d2 := blk_cell h1.ey.blk 2
    simp at d2
    have CE := Lib.hid (eleft_calls _ base g A c xs ⟨a, 2⟩ h2.ey HS.out)
    have H2 := Lib.hid h2
    have e2 : errN 2 = 11 := rfl
    rw [e2] at CE H2
    clear h1 h2 hb1 e2
    go_wp2_with fail
    refine CE.out.mono ?_; rintro e w3 ⟨rfl, hb3⟩
    have h3 := H2.out.below HB.out hb3
    have j2 := blk_frozen h3.ey.blk 2
    have g2 := blk_cell h3.ey.blk 2
    simp at g2
    have FIN := Lib.hid (eyto_met h3 1)
    clear h3 hb3
    go_wp2_with fail
    go_ret
    exact ⟨rfl, FIN.out⟩
  · have e : (if (xs.drop a).length < 10 then 1 else 2) = 2 := by rw [if_neg]; simp; omega
    rw [e]
    have t1 : decide ((xs.length : Int) - (a : Int) < 10) = false := decide_eq_false hl
    clear e hl
    go_enter Try.func38, Try.ntmps38
    go_wp2_with fail
    refine CL.out.mono ?_; rintro e w1 ⟨rfl, hb1⟩
    have h1 := (EyTo.refl H.out).below HB.out hb1
    have k2 := blk_frozen h1.ey.blk 2
    have h2 := eyto_met h1 2
    have d2 := blk_cell h1.ey.blk 2
    simp at d2
    have CE := Lib.hid (eleft_calls _ base g A c xs ⟨a, 2⟩ h2.ey HS.out)
    have H2 := Lib.hid h2
    have e2 : errN 2 = 11 := rfl
    rw [e2] at CE H2
    clear h1 h2 hb1 e2
    go_wp2_with fail
    refine CE.out.mono ?_; rintro e w3 ⟨rfl, hb3⟩
    have FIN := Lib.hid (H2.out.below HB.out hb3)
    clear hb3
    go_wp2_with fail
    go_ret
    exact ⟨rfl, FIN.out⟩
theorem u64_fold (m c : Nat) : IntKind.u64.wrap (IntKind.u64.wrap ((m : Int) * 128) + (c : Int) % 128) = (((m * 128 + c % 128) % 18446744073709551616 : Nat) : Int) := by
  simp [IntKind.wrap, IntKind.bits, IntKind.signed]
theorem val_step (c : Int) (t : List Int) (M : Nat) (hM : M = 18446744073709551616) : (val t % M * 128 + c.toNat % 128) % M = val (c :: t) % M := by
  subst hM; simp only [val]; omega
/-- What the loop has read: the last bytes, up from place t. -/
def eAt (xs : List Int) (a j t : Nat) : Nat := val ((xs.drop (a + t)).take (j + 1 - t)) % 18446744073709551616
theorem eAt_top (xs : List Int) (a j : Nat) : eAt xs a j (j + 1) = 0 := by simp [eAt, val]
theorem eAt_step (xs : List Int) (a j t : Nat) (ht : t ≤ j) (hl : a + t < xs.length) : eAt xs a j t = (eAt xs a j (t + 1) * 128 + (xs.getD (a + t) 0).toNat % 128) % 18446744073709551616 := by
  unfold eAt
  rw [List.drop_eq_getElem_cons hl, show j + 1 - t = (j - t) + 1 by omega, List.take_succ_cons, show j + 1 - (t + 1) = j - t by omega, ← val_step _ _ _ rfl]
  simp [List.getD, List.getElem?_eq_getElem hl, Nat.add_assoc]
set_option maxRecDepth 20000 in
set_option maxHeartbeats 6400000 in
theorem evar_some (W : World) (base g : Nat) (A : Option Addr) (c : Nat) (xs : List Int) (a j : Nat) (most : Nat) (h : Eyd W base g A c xs ⟨a, 0⟩) (hs : RS.Ok ⟨a, 0⟩ xs) (hb : base ≤ W.heap.size) (hxl : xs.length ≤ 140737488355328) (hx : Byt xs) (hj : lastJ (xs.drop a) 0 = some j) (hjl : a + j < xs.length) (hj10 : j < 10) :
    Calls Try.prog 38 #[.pointer (some ⟨g, 0, none⟩), .int .u64 most] W fun e w' => e = .returned (.int .u64 ((eVar xs ⟨a, 0⟩ most).1 : Int)) ∧ EyTo W w' base g A c xs (eVar xs ⟨a, 0⟩ most).2 := by
  have c2 := blk_cell h.blk 2
  simp at c2
  rw [show errN 0 = 0 from rfl] at c2
  have CL := Lib.hid (elast_calls W base g A c xs ⟨a, 0⟩ h hs hxl hx)
  have e1 : lastOf xs a = (a : Int) + (j : Int) := by unfold lastOf; rw [hj]; push_cast; rfl
  rw [show (RS.mk a 0).at_ = a from rfl, e1] at CL
  have H := Lib.hid h
  have HB := Lib.hid hb
  have hal : a ≤ xs.length := hs.at_
  have HX := Lib.hid hx
  obtain ⟨N, hN⟩ : ∃ N, N = eAt xs a j 0 := ⟨_, rfl⟩
  obtain ⟨L, hL⟩ : ∃ L, L = (xs.drop a).take (j + 1) := ⟨_, rfl⟩
  have hN2 : N = val L % 18446744073709551616 := by rw [hN, hL]; simp [eAt]
  have HV : Hid (eVar xs ⟨a, 0⟩ most = if vr N = L then if most < N then (0, ⟨a, 3⟩) else (N, ⟨a + (j + 1), 0⟩) else (0, ⟨a, 2⟩)) := by
    show _ = _
    unfold eVar
    rw [if_pos rfl]
    show (match lastJ (xs.drop a) 0 with | none => _ | some j => _) = _
    rw [hj, hN2, hL]
  have HN : Hid (eAt xs a j 0 = N) := hN.symm
  have hN64 : N < 18446744073709551616 := by rw [hN2]; exact Nat.mod_lt _ (by omega)
  have HLL : Hid (L.length = j + 1) := by show _ = _; rw [hL]; simp; omega
  obtain ⟨i0, hi0, _, hs0, _⟩ := info_parts info5
  have q : ∀ W : World, (Instr.slice 22 (.slice A xs.length c) (some (.int .i64 (a : Int))) (some (.int .i64 ((a : Int) + (j : Int) + 1))) none).run Try.prog W = .ok (.slice (if c = a then A else A.map (·.add (a * 1))) (j + 1) (c - a)) W := fun W => by
    have h := cut_mid (P := Try.prog) 22 5 .i64 .i64 Try.underlying22 hi0 1 hs0 A xs.length c (a : Int) ((a : Int) + j + 1) (by omega) (by omega) (by omega) H.out.cap W
    rw [Int.toNat_natCast, show ((a : Int) + (j : Int) + 1).toNat - a = j + 1 by omega] at h
    exact h
  have HCUT : Hid (ReadsOf I 0 W (if c = a then A else A.map (·.add (a * 1))) (j + 1) L) := by rw [hL]; exact ecut h.rd h.cap a (by omega)
  rw [← HLL.out] at HCUT
  rw [← HLL.out] at q
  obtain ⟨A2, hA2⟩ : ∃ A2, A2 = (if c = a then A else A.map (·.add (a * 1))) := ⟨_, rfl⟩
  rw [← hA2] at HCUT
  simp only [← hA2] at q
  have HQ := Lib.hid q
  have HN64 := Lib.hid hN64
  have p3 : IntKind.i64.wrap ((a : Int) + (j : Int) + 1) = (a : Int) + (j : Int) + 1 := wrap_in (by omega) (by omega)
  have t0 : decide ((a : Int) + (j : Int) < 0) = false := decide_eq_false (by omega)
  clear h hs hb hx hj e1 hN hL hN2 hA2 hi0 hs0 q hN64
  go_enter Try.func38, Try.ntmps38
  go_wp2_with fail
  refine CL.out.mono ?_; rintro e w1 ⟨rfl, hb1⟩
  have HB1 := Lib.hid hb1
  clear hb1 c2
  go_wp2_with fail
  go_loopw [6, 7] (fun n i wr => ∃ t : Nat, n = .int .u64 (eAt xs a j t : Nat) ∧ i = .int .i64 ((a : Int) + (t : Int) - 1) ∧ t ≤ j + 1 ∧ Below W.heap.size W wr) (fun _ i _ => (intOf i + 1 - a).toNat)
  case atStart => exact ⟨j + 1, by rw [eAt_top]; rfl, by congr 1; omega, by omega, HB1.out⟩
  case round =>
    obtain ⟨t, rfl, rfl, ht, hb3⟩ := hrel
    have h3 := H.out.below hb3
    have d0 := blk_cell h3.blk 0
    have d1 := blk_cell h3.blk 1
    simp at d0 d1
    have HB3 := Lib.hid hb3
    have hrr := h3.rd
    clear hb3 h3
    by_cases ht0 : t = 0
    · subst ht0
      have t1 : decide ((a : Int) ≤ (a : Int) + ((0 : Nat) : Int) - 1) = false := decide_eq_false (by omega)
      rw [HN.out]
      have CV : Hid (∀ W', Below wr.heap.size wr W' → Calls Try.prog 28 #[.int .u64 N] W' fun e w' => ∃ v, e = .returned v ∧ w'.ownsRow W'.heap.size 5 1 v (vr N).length (encs I (vr N)) ∧ Below W'.heap.size W' w') := fun W' _ => rvar_calls N W' W'.heap.size (Nat.le_refl _) HN64.out
      have q := HQ.out
      have HLV : Hid (L.length ≤ 140737488355328) := by show _ ≤ _; rw [HLL.out]; omega
      clear hrr ht t1
      go_wp2_with fail
      first | (go_region_law (first | (go_simp; go_at_call 28; refine (CV.out _ (by first | exact Below.refl _ _ | exact (Below.refl _ _).drew | exact pw_below_drewN (Below.refl _ _) _)).mono ?_; rintro e w3 ⟨v3, rfl, hu3, hb4⟩; obtain ⟨A3, c3, rfl, hr3⟩ := own_reads_of (d := 0) hu3; have hw3 : Below wr.heap.size wr w3 := (Below.refl _ wr).drew.trans hb4; have h4 := H.out.below (HB3.out.trans (hw3.mono HB3.out.size)); have g0 := blk_cell h4.blk 0; have g1 := blk_cell h4.blk 1; simp at g0 g1; have HR3 := Lib.hid hr3; have HW3 := Lib.hid hw3; clear hu3 hb4 hr3 h4 hw3) | (go_simp; go_at_call 18; refine (eq_calls (vr N) L A3 A2 c3 (c - a) w3 HR3.out ((HCUT.out.below HB3.out).below HW3.out) HLV.out).mono ?_; rintro e w5 ⟨b, rfl, hbb, hb5⟩; have HBB := Lib.hid hbb; have HB5 := Lib.hid hb5; clear hbb hb5))) | fail
      all_goals
        have h5 := (EyTo.refl H.out).below HB.out (HB3.out.trans ((HW3.out.trans (HB5.out.mono HW3.out.size)).mono HB3.out.size))
        have k1 := blk_frozen h5.ey.blk 1
        have k2 := blk_frozen h5.ey.blk 2
        have r1 := blk_cell h5.ey.blk 1
        have r2 := blk_cell h5.ey.blk 2
        simp at r1 r2
        have FB := Lib.hid (eyto_met h5 2)
        have FM := Lib.hid (eyto_met h5 3)
        have FA := Lib.hid (eyto_at h5 (a + (j + 1)))
        have ea : ((a + (j + 1) : Nat) : Int) = (a : Int) + (j : Int) + 1 := by omega
        rw [ea] at FA
        clear h5 q ea d0 d1 g0 g1
        rcases b with _ | _
        · have HE : Hid (eVar xs ⟨a, 0⟩ most = (0, ⟨a, 2⟩)) := by
            show _ = _
            rw [HV.out, if_neg (fun e => by have := HBB.out.2 e; cases this)]
          go_wp2_with fail
          go_ret
          rw [HE.out]
          exact ⟨rfl, FB.out⟩
        · by_cases hmn : most < N
          · have HE : Hid (eVar xs ⟨a, 0⟩ most = (0, ⟨a, 3⟩)) := by
              show _ = _
              rw [HV.out, if_pos (HBB.out.1 rfl), if_pos hmn]
            go_wp2_with fail
            go_ret
            rw [HE.out]
            exact ⟨rfl, FM.out⟩
          · have HE : Hid (eVar xs ⟨a, 0⟩ most = (N, ⟨a + (j + 1), 0⟩)) := by
              show _ = _
              rw [HV.out, if_pos (HBB.out.1 rfl), if_neg hmn]
            go_wp2_with fail
            go_ret
            rw [HE.out]
            exact ⟨rfl, FA.out⟩
    · obtain ⟨t, rfl⟩ : ∃ t', t = t' + 1 := ⟨t - 1, by omega⟩
      have ei : (a : Int) + ((t + 1 : Nat) : Int) - 1 = (a : Int) + (t : Int) := by omega
      rw [ei]
      have t1 : decide ((a : Int) ≤ (a : Int) + (t : Int)) = true := decide_eq_true (by omega)
      obtain ⟨ad, hA, hc⟩ := hrr.2.2 (by omega)
      subst hA
      have hlt : a + t < xs.length := by omega
      obtain ⟨cc, hcc⟩ : ∃ m, m = (xs.getD (a + t) 0).toNat := ⟨_, rfl⟩
      have hcb := byt_get HX.out (a + t) hlt
      have x1 := hc (a + t) hlt
      rw [show xs.getD (a + t) 0 = (cc : Int) by omega] at x1
      obtain ⟨m0, hm0⟩ : ∃ m, m = eAt xs a j (t + 1) := ⟨_, rfl⟩
      obtain ⟨m1, hm1⟩ : ∃ m, m = eAt xs a j t := ⟨_, rfl⟩
      have hst : m1 = (m0 * 128 + cc % 128) % 18446744073709551616 := by rw [hm1, hm0, hcc]; exact eAt_step xs a j t (by omega) hlt
      have hm0l : m0 < 18446744073709551616 := by rw [hm0]; exact Nat.mod_lt _ (by omega)
      rw [← hm0]
      have HM := Lib.hid hm1
      obtain ⟨p, hp⟩ : ∃ p : Int, p = IntKind.u64.wrap ((m0 : Int) * 128) := ⟨_, rfl⟩
      have p2 : ((a : Int) + (t : Int)).toNat = a + t := by omega
      have i1 : (0 : Int) ≤ (a : Int) + (t : Int) := by omega
      have i2 : (a : Int) + (t : Int) < (xs.length : Int) := by omega
      have cb : (cc : Int) ≤ 255 := by omega
      clear hcc hc hrr hm0 hm1 hcb
      go_wp2_with fail
      exact ⟨⟨t, by rw [← HM.out, u64_fold, hst], rfl, by omega, HB3.out⟩, by simp [intOf]; omega⟩
theorem evar_calls (W : World) (base g : Nat) (A : Option Addr) (c : Nat) (xs : List Int) (s : RS) (most : Nat) (h : Eyd W base g A c xs s) (hs : s.Ok xs) (hb : base ≤ W.heap.size) (hxl : xs.length ≤ 140737488355328) (hx : Byt xs) :
    Calls Try.prog 38 #[.pointer (some ⟨g, 0, none⟩), .int .u64 most] W fun e w' => e = .returned (.int .u64 ((rVar xs s most).1 : Int)) ∧ EyTo W w' base g A c xs (rVar xs s most).2 := by
  rw [← eVar_eq hx s most]
  by_cases hm : s.met = 0
  · obtain ⟨a, m⟩ := s
    have hm : m = 0 := hm
    subst hm
    cases hj : lastJ (xs.drop a) 0 with
    | none =>
      have e : eVar xs ⟨a, 0⟩ most = (0, ⟨a, if (xs.drop a).length < 10 then 1 else 2⟩) := by unfold eVar; rw [if_pos rfl]; show (match lastJ (xs.drop a) 0 with | none => _ | some j => _) = _; rw [hj]
      rw [e]
      exact evar_none W base g A c xs a most h hs hb hxl hx hj
    | some j =>
      have h1 := lastJ_some most (xs.drop a) (byt_drop hx a) 0 0 j hj
      have h2 := h1.2.2.1
      simp at h2
      exact evar_some W base g A c xs a j most h hs hb hxl hx hj (by omega) h1.2.1
  · have e : eVar xs s most = (0, s) := by unfold eVar; rw [if_neg hm]
    rw [e]
    exact evar_stop W base g A c xs s most h hm
end Go.Proofs.Ytoeiaimoppmjdaa.Wr
