/- Proved: whatever the two ends, the place and the changes (at most 1048576): a walk of changes stays in its range; each that is told goes back by its opposite; both slacks together are hi - lo; what is cut to a slack can be moved. -/
import Derived.Test.YtidofjmflpcglaaRange2
import Derived.Test.YtidofjmflpcglaaPSumWalksx1
import Derived.Test.YtidofjmflpcglaaOpen
import Derived.Test.YtidofjmflpcglaaTotal
namespace Go.Proofs.Ytidofjmflpcglaa.SumWalks
open Go.RowKit Go.Proofs.Ytidofjmflpcglaa.SumPlain Go.Proofs.YtidofjmflpcglaaW.PrintWords Go.Proofs.YtidofjmflpcglaaW.PrintMore Go.Proofs.Ytidofjmflpcglaa.Mul Go.Proofs.Ytidofjmflpcglaa.Opn Go.Proofs.Ytidofjmflpcglaa.Rng Go.Proofs.Ytidofjmflpcglaa.PSumWalks
set_option linter.unusedVariables false
set_option linter.unusedSimpArgs false
theorem below_of_keep {w0 w w' : World} {g : Nat} {lo hi : Int} (hb : Below w0.heap.size w0 w) (hb' : Below w0.heap.size w0 w') (hk : KeepBut w w' g none) (h : IsR w g lo hi) (h' : IsR w' g lo hi) : Below w.heap.size w w' :=
  ⟨hb'.os.trans hb.os.symm, hb'.tape.trans hb.tape.symm, hb'.output.trans hb.output.symm, hk.1, fun i hi => by
    by_cases e : i = g
    · subst e; exact h'.trans h.symm
    · exact hk.2 i hi e (by simp)⟩
theorem has_f (lo hi a : Int) : sum_Range_Has.f lo hi a = some (decide (lo ≤ a ∧ a ≤ hi), lo, hi) := by
  unfold sum_Range_Has.f
  by_cases h : lo ≤ a
  · rw [if_pos h]; simp [h]
  · rw [if_neg h]; simp [h]
theorem move_f (lo hi a ch : Int) (ha : I64 a) (hc : I64 ch) (hlo : I64 lo) (hhi : I64 hi) : sum_Range_Move.f lo hi a ch = some ((moveOf lo hi a ch).1, (moveOf lo hi a ch).2, lo, hi) := by
  unfold sum_Range_Move.f
  have hadd : sum_Add.f a ch = some (fit (a + ch)) := add_eq a ch ha hc
  rw [hadd, Option.bind_some, has_f, Option.bind_some, has_f, Option.bind_some]
  unfold moveOf
  by_cases c0 : I64 (a + ch)
  · rw [fit_in c0]
    by_cases c1 : lo ≤ a ∧ a ≤ hi
    · by_cases c2 : lo ≤ a + ch ∧ a + ch ≤ hi
      · simp [c1, c2]
      · rw [if_neg (c := (lo ≤ a ∧ a ≤ hi) ∧ lo ≤ a + ch ∧ a + ch ≤ hi) (fun h => c2 h.2)]; simp [c1, c2]
    · rw [if_neg (c := (lo ≤ a ∧ a ≤ hi) ∧ lo ≤ a + ch ∧ a + ch ≤ hi) (fun h => c1 h.1)]; simp [c1]
  · rw [fit_out c0, if_neg (c := (lo ≤ a ∧ a ≤ hi) ∧ lo ≤ a + ch ∧ a + ch ≤ hi) (by unfold I64 at *; omega)]; simp
theorem slack_f (lo hi a way : Int) (ha : I64 a) (hlo : I64 lo) (hhi : I64 hi) (h : lo ≤ a ∧ a ≤ hi) (hw : way = 0 ∨ way = 1) : sum_Range_Slack.f lo hi a way = some ((if way = 0 then a - lo else hi - a), lo, hi) := by
  unfold sum_Range_Slack.f
  rw [has_f, Option.bind_some, decide_eq_true h]
  rcases hw with rfl | rfl
  · simp only [if_true, u64_sub a lo ha hlo h.1]
  · simp only [if_true, u64_sub hi a hhi ha h.2]; rfl
theorem amount_f (a : Int) (ha : I64 a) : sum_Amount.f a = some (mag a) := amount_eq a ha
/-- What a change is cut to. -/
def cutTo (lo hi a ch : Int) : Int :=
  if ch < 0 then mx ch (-(mn (a - lo) 4611686018427387904)) else mn ch (mn (hi - a) 4611686018427387904)
theorem cutTo_in (lo hi a ch : Int) (h : lo ≤ a ∧ a ≤ hi) : lo ≤ a + cutTo lo hi a ch ∧ a + cutTo lo hi a ch ≤ hi := by
  unfold cutTo mx mn
  repeat' split
  all_goals omega
theorem cutTo_64 (lo hi a ch : Int) (ha : I64 a) (hc : I64 ch) (hlo : I64 lo) (hhi : I64 hi) (h : lo ≤ a ∧ a ≤ hi) : I64 (cutTo lo hi a ch) := by
  unfold cutTo mx mn I64 at *
  repeat' split
  all_goals omega
theorem cut_f (lo hi a ch : Int) (ha : I64 a) (hc : I64 ch) (hlo : I64 lo) (hhi : I64 hi) (h : lo ≤ a ∧ a ≤ hi) : tilllaw3_cut.f 2 lo hi a ch = some (a + cutTo lo hi a ch, true, lo, hi) := by
  have hin := cutTo_in lo hi a ch h
  unfold tilllaw3_cut.f
  by_cases hn : ch < 0
  · rw [if_pos hn]
    have hr : cutTo lo hi a ch = mx ch (-(mn (a - lo) 4611686018427387904)) := if_pos hn
    simp only [tilllaw3_cut.j0, slack_f lo hi a 0 ha hlo hhi h (.inl rfl), Option.bind_some, if_true]
    have key : ∀ room : Int, room = mn (a - lo) 4611686018427387904 → tilllaw3_cut.j1 1 a ch room lo hi = some (a + cutTo lo hi a ch, true, lo, hi) := by
      intro room hroom
      have hc9 : sum_Cut.f ch (wrap64 room) = some (cutTo lo hi a ch) := by
        rw [hr, ← hroom]
        unfold sum_Cut.f mx mn wrap64
        unfold mn at hroom
        unfold I64 at *
        congr 1
        repeat' split
        all_goals (revert hroom; repeat' split)
        all_goals omega
      have hC : I64 (cutTo lo hi a ch) := cutTo_64 lo hi a ch ha hc hlo hhi h
      simp only [tilllaw3_cut.j1, hc9, Option.bind_some, amount_f _ hC, amount_f _ hc, move_f lo hi a _ ha hC hlo hhi]
      have hmv : moveOf lo hi a (cutTo lo hi a ch) = (a + cutTo lo hi a ch, true) := by unfold moveOf; rw [if_pos ⟨h, hin⟩]
      rw [hmv]
      have h1 : ¬ mag (cutTo lo hi a ch) > room := by
        rw [hr, ← hroom]; unfold mag mx; unfold mn at hroom; unfold I64 at *
        revert hroom; repeat' split
        all_goals omega
      have h2 : ¬ mag (cutTo lo hi a ch) > mag ch := by
        rw [hr]; unfold mag mx mn; unfold I64 at *
        repeat' split
        all_goals omega
      rw [if_neg h1, if_neg h2, if_pos hn, if_neg]
      have h3 : cutTo lo hi a ch ≤ 0 := by
        rw [hr]; unfold mx mn
        repeat' split
        all_goals omega
      by_cases h4 : cutTo lo hi a ch < 0
      · have h5 : cutTo lo hi a ch ≠ 0 := by omega
        simp [h4, h5]
      · have h5 : cutTo lo hi a ch = 0 := by omega
        simp [h5]
    by_cases hb : a - lo > 4611686018427387904
    · rw [if_pos hb]; exact key _ (by unfold mn; rw [if_pos hb])
    · rw [if_neg hb]; exact key _ (by unfold mn; rw [if_neg hb])
  · rw [if_neg hn]
    have hr : cutTo lo hi a ch = mn ch (mn (hi - a) 4611686018427387904) := if_neg hn
    simp only [tilllaw3_cut.j0, slack_f lo hi a 1 ha hlo hhi h (.inr rfl), Option.bind_some]
    rw [if_neg (show ¬ (1 : Int) = 0 by decide)]
    have key : ∀ room : Int, room = mn (hi - a) 4611686018427387904 → tilllaw3_cut.j1 1 a ch room lo hi = some (a + cutTo lo hi a ch, true, lo, hi) := by
      intro room hroom
      have hc9 : sum_Cut.f ch (wrap64 room) = some (cutTo lo hi a ch) := by
        rw [hr, ← hroom]
        unfold sum_Cut.f mx mn wrap64
        unfold mn at hroom
        unfold I64 at *
        congr 1
        repeat' split
        all_goals (revert hroom; repeat' split)
        all_goals omega
      have hC : I64 (cutTo lo hi a ch) := cutTo_64 lo hi a ch ha hc hlo hhi h
      simp only [tilllaw3_cut.j1, hc9, Option.bind_some, amount_f _ hC, amount_f _ hc, move_f lo hi a _ ha hC hlo hhi]
      have hmv : moveOf lo hi a (cutTo lo hi a ch) = (a + cutTo lo hi a ch, true) := by unfold moveOf; rw [if_pos ⟨h, hin⟩]
      rw [hmv]
      have h1 : ¬ mag (cutTo lo hi a ch) > room := by
        rw [hr, ← hroom]; unfold mag mn; unfold mn at hroom; unfold I64 at *
        revert hroom; repeat' split
        all_goals omega
      have h2 : ¬ mag (cutTo lo hi a ch) > mag ch := by
        rw [hr]; unfold mag mn; unfold I64 at *
        repeat' split
        all_goals omega
      have h3 : ¬ cutTo lo hi a ch < 0 := by
        rw [hr]; unfold mn
        repeat' split
        all_goals omega
      rw [if_neg h1, if_neg h2, if_neg hn, if_neg (by simp; omega)]
    by_cases hb : hi - a > 4611686018427387904
    · rw [if_pos hb]; exact key _ (by unfold mn; rw [if_pos hb])
    · rw [if_neg hb]; exact key _ (by unfold mn; rw [if_neg hb])
theorem near_in (l h a : Int) (hlh : l ≤ h) : l ≤ mx l (mn a h) ∧ mx l (mn a h) ≤ h := by
  unfold mx mn; repeat' split
  all_goals omega
theorem near_self (l h a : Int) (h1 : l ≤ a) (h2 : a ≤ h) : mx l (mn a h) = a := by
  unfold mx mn; repeat' split
  all_goals omega

set_option maxHeartbeats 3200000 in
set_option maxRecDepth 100000 in
theorem walk_up (lo hi a0 : Int) (xs : List Int) (A : Option Addr) (c : Nat) (w : World) (hlo : I64 lo) (hhi : I64 hi) (ha0 : I64 a0) (hcase : lo ≤ hi) (hr : (Kd.int .i64).C w A xs.length xs) (hv : ∀ a, a ∈ xs → I64 a) :
    Calls Try.prog 13 #[.agg #[.int .i64 lo, .int .i64 hi, .int .i64 a0, .slice A xs.length c]] w fun e w' => e = .returned (.bool true) ∧ Below w.heap.size w w' := by
  have hn := Kd.C_max hr
  have HR := Lib.hid hr
  have HV := Lib.hid hv
  have HLH : Hid (lo ≤ hi) := by show lo ≤ hi; omega
  have HLO : Hid (I64 lo) := hlo
  have HHI : Hid (I64 hi) := hhi
  have HNI := Lib.hid (near_in lo hi a0 HLH.out)
  have hdec : decide (hi < lo) = false := by simp; omega
  have HB0 : Hid (Below w.heap.size w (w.alloc (.cells #[.int .i64 lo, .int .i64 hi, .int .i64 a0, .slice A xs.length c] 78))) := (Below.refl _ _).alloc (Nat.le_refl _) _
  have hbox2 : (w.alloc (.cells #[.int .i64 lo, .int .i64 hi, .int .i64 a0, .slice A xs.length c] 78)).cell? ⟨w.heap.size, 2, none⟩ = some (.int .i64 a0) := by go_simp
  have hbox3 : (w.alloc (.cells #[.int .i64 lo, .int .i64 hi, .int .i64 a0, .slice A xs.length c] 78)).cell? ⟨w.heap.size, 3, none⟩ = some (.slice A xs.length c) := by go_simp
  obtain ⟨W0, hW0⟩ : ∃ W0, W0 = w.alloc (.cells #[.int .i64 lo, .int .i64 hi, .int .i64 a0, .slice A xs.length c] 78) := ⟨_, rfl⟩
  have hsz : W0.heap.size = w.heap.size + 1 := by rw [hW0]; simp
  rw [← hW0] at hbox2 hbox3 HB0
  have hbelow1 : Below W0.heap.size W0 (W0.alloc (.cells #[.int .i64 lo, .int .i64 hi] 89)) := (Below.refl _ _).alloc (Nat.le_refl _) _
  have hr1 : IsR (W0.alloc (.cells #[.int .i64 lo, .int .i64 hi] 89)) W0.heap.size lo hi := heap_alloc_new W0 _
  obtain ⟨W1, hW1⟩ : ∃ W1, W1 = W0.alloc (.cells #[.int .i64 lo, .int .i64 hi] 89) := ⟨_, rfl⟩
  have hsz1 : W1.heap.size = w.heap.size + 2 := by rw [hW1]; simp [hsz]
  rw [← hW1] at hbelow1 hr1
  have HBOX2 := Lib.hid hbox2
  have HBOX3 := Lib.hid hbox3
  have HW0 := Lib.hid hW0
  have HW1 := Lib.hid hW1
  have HSZ := Lib.hid hsz
  have HSZ1 := Lib.hid hsz1
  have HBEL1 := Lib.hid hbelow1
  have HR1 := Lib.hid hr1
  clear hW0 hW1 hsz hsz1 hbox2 hbox3 hbelow1 hr1 hr hv hcase hlo hhi ha0
  go_enter Try.func13, Try.ntmps13
  go_wp2_with fail
  rw [← HW0.out]
  refine (new_yes lo hi _ HLH.out).mono ?_; rintro e w' ⟨rfl, rfl⟩
  rw [← HW1.out]
  have hb2 : W1.cell? ⟨w.heap.size, 2, none⟩ = some (.int .i64 a0) := (HBEL1.out.cell (p := ⟨w.heap.size, 2, none⟩) (by have := HSZ.out; simp; omega)).trans HBOX2.out
  go_wp2_with fail
  refine (num_calls 0 _).mono ?_; rintro e w' ⟨rfl, rfl⟩
  go_wp2_with fail
  refine (near_calls W0.heap.size lo hi a0 _ HR1.out).mono ?_; rintro e w' ⟨rfl, ⟨nd, rfl⟩⟩
  go_wp2_with fail
  go_loopw [7, 8] (fun av i wr => ∃ (k : Nat) (a : Int), k ≤ xs.length ∧ i = .int .i64 k ∧ av = .int .i64 a ∧ lo ≤ a ∧ a ≤ hi ∧ Below W1.heap.size W1 wr) (fun _ i _ => xs.length - (intOf i).toNat)
  case atStart => exact ⟨0, _, Nat.zero_le _, rfl, rfl, HNI.out.1, HNI.out.2, pw_below_drewN (Below.refl _ _) nd⟩
  case round =>
    obtain ⟨k, a, hk, rfl, rfl, hla, hah, hbel⟩ := hrel
    have HLA := Lib.hid hla
    have HAH := Lib.hid hah
    have HBEL := Lib.hid hbel
    clear hbel hla hah
    have hbx3 : wr.cell? ⟨w.heap.size, 3, none⟩ = some (.slice A xs.length c) := (HBEL.out.cell (p := ⟨w.heap.size, 3, none⟩) (by have := HSZ1.out; simp; omega)).trans ((HBEL1.out.cell (p := ⟨w.heap.size, 3, none⟩) (by have := HSZ.out; simp; omega)).trans HBOX3.out)
    have hRr : IsR wr W0.heap.size lo hi := HR1.out.below HBEL.out (by have := HSZ1.out; have := HSZ.out; omega)
    have HRR := Lib.hid hRr
    have hIa : I64 a := by have h1 := HLO.out; have h2 := HHI.out; have h3 := HLA.out; have h4 := HAH.out; unfold I64 at *; omega
    have HIA := Lib.hid hIa
    clear hRr hIa
    have hfin : Below w.heap.size w wr := HB0.out.trans ((HBEL1.out.mono (by have := HSZ.out; omega)).trans (HBEL.out.mono (by have := HSZ1.out; omega)))
    have HFIN := Lib.hid hfin
    clear hfin
    by_cases hlt : k < xs.length
    · have hCr : (Kd.int .i64).C wr A xs.length xs := Kd.C_below (Kd.C_below (Kd.C_below HR.out HB0.out) HBEL1.out) HBEL.out
      obtain ⟨ad, rfl, hcell⟩ := Kd.at_int hCr k (by omega) (by omega)
      rw [Int.toNat_natCast] at hcell
      clear hCr
      have hch : I64 (rd xs k) := by rw [Total.rd_get xs k hlt]; exact HV.out _ (List.getElem_mem hlt)
      obtain ⟨ch, hchd⟩ : ∃ ch, ch = rd xs k := ⟨_, rfl⟩
      rw [← hchd] at hcell hch
      clear hchd
      obtain ⟨s0, hs0⟩ : ∃ s0, s0 = slackOf lo hi a 0 := ⟨_, rfl⟩
      obtain ⟨s1, hs1⟩ : ∃ s1, s1 = slackOf lo hi a 1 := ⟨_, rfl⟩
      have HS0 := Lib.hid (slack_calls W0.heap.size lo hi a 0 wr HRR.out HLO.out HHI.out HIA.out)
      have HS1 := Lib.hid (slack_calls W0.heap.size lo hi a 1 wr HRR.out HLO.out HHI.out HIA.out)
      rw [← hs0] at HS0
      rw [← hs1] at HS1
      have hsum : (IntKind.u64.wrap (s0 + s1) != IntKind.u64.wrap (IntKind.u64.wrap hi - IntKind.u64.wrap lo)) = false := by
        have h3 := HLA.out; have h4 := HAH.out; have h1 := HLO.out; have h2 := HHI.out
        rw [hs0, hs1]; unfold slackOf
        rw [if_pos ⟨h3, h4⟩, if_pos rfl, if_pos ⟨h3, h4⟩, if_neg (by decide), if_pos rfl, bne_eq_false_iff_eq, u64_sub hi lo h2 h1 (by omega), IntKind.wrap_u64]
        unfold I64 at *; omega
      have HHAS := Lib.hid (has_calls W0.heap.size lo hi a wr HRR.out true (by have h3 := HLA.out; have h4 := HAH.out; simp [h3, h4]))
      have HMV := Lib.hid (move_calls W0.heap.size lo hi a ch wr HRR.out HLO.out HHI.out HIA.out hch)
      have HNEG := Lib.hid (neg_calls ch hch wr)
      clear hs0 hs1
      by_cases hin : lo ≤ a + ch ∧ a + ch ≤ hi
      · have hm1 : moveOf lo hi a ch = (a + ch, true) := by unfold moveOf; rw [if_pos ⟨⟨HLA.out, HAH.out⟩, hin⟩]
        rw [hm1] at HMV
        have hb64 : I64 (a + ch) := by have h1 := HLO.out; have h2 := HHI.out; unfold I64 at *; omega
        have HHAS2 := Lib.hid (has_calls W0.heap.size lo hi (a + ch) wr HRR.out true (by simp [hin]))
        obtain ⟨b, hbd⟩ : ∃ b, b = a + ch := ⟨_, rfl⟩
        have hmb : I64 (-ch) → moveOf lo hi b (-ch) = (a, true) := by
          intro _; subst hbd
          have e : a + ch + -ch = a := by omega
          unfold moveOf; rw [e, if_pos ⟨hin, HLA.out, HAH.out⟩]
        rw [← hbd] at HMV HHAS2 hb64
        have hbr : lo ≤ b ∧ b ≤ hi := by rw [hbd]; exact hin
        have HBR := Lib.hid hbr
        clear hm1 hin hbd hbr
        by_cases hm : I64 (-ch)
        · rw [fit_in hm] at HNEG
          have HMV2 := Lib.hid (move_calls W0.heap.size lo hi b (-ch) wr HRR.out HLO.out HHI.out hb64 hm)
          rw [hmb hm] at HMV2
          clear hm hmb hb64 hch
          go_wp2_with fail
          refine HHAS.out.mono ?_; rintro e w' ⟨rfl, rfl⟩
          go_wp2_with fail
          refine HS0.out.mono ?_; rintro e w' ⟨rfl, rfl⟩
          go_wp2_with fail
          refine HS1.out.mono ?_; rintro e w' ⟨rfl, rfl⟩
          go_wp2_with fail
          refine HMV.out.mono ?_; rintro e w' ⟨rfl, rfl⟩
          go_wp2_with fail
          refine HNEG.out.mono ?_; rintro e w' ⟨rfl, rfl⟩
          go_wp2_with fail
          refine HHAS2.out.mono ?_; rintro e w' ⟨rfl, rfl⟩
          go_wp2_with fail
          refine HMV2.out.mono ?_; rintro e w' ⟨rfl, rfl⟩
          go_wp2_with fail
          go_roundw
          case rel => exact ⟨k + 1, b, by omega, by go_num, rfl, HBR.out.1, HBR.out.2, HBEL.out⟩
          case measure => simp [intOf]; omega
        · rw [fit_out hm] at HNEG
          have HMV2 := Lib.hid (move_calls W0.heap.size lo hi b 0 wr HRR.out HLO.out HHI.out hb64 (by unfold I64; omega))
          clear hm hmb hb64 hch
          go_wp2_with fail
          refine HHAS.out.mono ?_; rintro e w' ⟨rfl, rfl⟩
          go_wp2_with fail
          refine HS0.out.mono ?_; rintro e w' ⟨rfl, rfl⟩
          go_wp2_with fail
          refine HS1.out.mono ?_; rintro e w' ⟨rfl, rfl⟩
          go_wp2_with fail
          refine HMV.out.mono ?_; rintro e w' ⟨rfl, rfl⟩
          go_wp2_with fail
          refine HNEG.out.mono ?_; rintro e w' ⟨rfl, rfl⟩
          go_wp2_with fail
          refine HHAS2.out.mono ?_; rintro e w' ⟨rfl, rfl⟩
          go_wp2_with fail
          refine HMV2.out.mono ?_; rintro e w' ⟨rfl, rfl⟩
          go_wp2_with fail
          go_roundw
          case rel => exact ⟨k + 1, b, by omega, by go_num, rfl, HBR.out.1, HBR.out.2, HBEL.out⟩
          case measure => simp [intOf]; omega
      · have hm1 : moveOf lo hi a ch = (0, false) := by unfold moveOf; rw [if_neg (fun h => hin h.2)]
        rw [hm1] at HMV
        have HCF := Lib.hid (cut_f lo hi a ch HIA.out hch HLO.out HHI.out ⟨HLA.out, HAH.out⟩)
        have HCI := Lib.hid (cutTo_in lo hi a ch ⟨HLA.out, HAH.out⟩)
        have HCUT := Lib.hid (tilllaw3_cut.calls 2 W0.heap.size lo hi a ch _ _ _ _ W0 wr ⟨HRR.out, Nat.le_refl _⟩ (HBEL1.out.trans (HBEL.out.mono (by have := HSZ1.out; have := HSZ.out; omega))) HCF.out)
        clear hm1 hin hch
        generalize a + cutTo lo hi a ch = b at *
        go_wp2_with fail
        refine HHAS.out.mono ?_; rintro e w' ⟨rfl, rfl⟩
        go_wp2_with fail
        refine HS0.out.mono ?_; rintro e w' ⟨rfl, rfl⟩
        go_wp2_with fail
        refine HS1.out.mono ?_; rintro e w' ⟨rfl, rfl⟩
        go_wp2_with fail
        refine HMV.out.mono ?_; rintro e w' ⟨rfl, rfl⟩
        go_wp2_with fail
        refine HNEG.out.mono ?_; rintro e w' ⟨rfl, rfl⟩
        go_wp2_with fail
        refine HCUT.out.mono ?_; rintro e w2 ⟨rfl, hI2, hB2, hK2⟩
        have HB2 := Lib.hid (below_of_keep (HBEL1.out.trans (HBEL.out.mono (by have := HSZ1.out; have := HSZ.out; omega))) hB2 hK2 HRR.out hI2.1)
        clear hI2 hB2 hK2
        go_wp2_with fail
        go_roundw
        case rel => exact ⟨k + 1, b, by omega, by go_num, rfl, HCI.out.1, HCI.out.2, HBEL.out.trans (HB2.out.mono HBEL.out.size)⟩
        case measure => simp [intOf]; omega
    · have HNR := Lib.hid (near_calls W0.heap.size lo hi a wr HRR.out)
      rw [near_self lo hi a HLA.out HAH.out] at HNR
      go_wp2_with fail
      refine HNR.out.mono ?_; rintro e w' ⟨rfl, ⟨nd2, rfl⟩⟩
      go_wp2_with fail
      go_ret
      exact ⟨by simp, pw_below_drewN HFIN.out nd2⟩

set_option maxHeartbeats 3200000 in
set_option maxRecDepth 100000 in
theorem walk_down (lo hi a0 : Int) (xs : List Int) (A : Option Addr) (c : Nat) (w : World) (hlo : I64 lo) (hhi : I64 hi) (ha0 : I64 a0) (hcase : hi < lo) (hr : (Kd.int .i64).C w A xs.length xs) (hv : ∀ a, a ∈ xs → I64 a) :
    Calls Try.prog 13 #[.agg #[.int .i64 lo, .int .i64 hi, .int .i64 a0, .slice A xs.length c]] w fun e w' => e = .returned (.bool true) ∧ Below w.heap.size w w' := by
  have hn := Kd.C_max hr
  have HR := Lib.hid hr
  have HV := Lib.hid hv
  have HLH : Hid (hi ≤ lo) := by show hi ≤ lo; omega
  have HLO : Hid (I64 hi) := hhi
  have HHI : Hid (I64 lo) := hlo
  have HNI := Lib.hid (near_in hi lo a0 HLH.out)
  have hdec : decide (hi < lo) = true := by simp; omega
  have HB0 : Hid (Below w.heap.size w (w.alloc (.cells #[.int .i64 lo, .int .i64 hi, .int .i64 a0, .slice A xs.length c] 78))) := (Below.refl _ _).alloc (Nat.le_refl _) _
  have hbox2 : (w.alloc (.cells #[.int .i64 lo, .int .i64 hi, .int .i64 a0, .slice A xs.length c] 78)).cell? ⟨w.heap.size, 2, none⟩ = some (.int .i64 a0) := by go_simp
  have hbox3 : (w.alloc (.cells #[.int .i64 lo, .int .i64 hi, .int .i64 a0, .slice A xs.length c] 78)).cell? ⟨w.heap.size, 3, none⟩ = some (.slice A xs.length c) := by go_simp
  obtain ⟨W0, hW0⟩ : ∃ W0, W0 = w.alloc (.cells #[.int .i64 lo, .int .i64 hi, .int .i64 a0, .slice A xs.length c] 78) := ⟨_, rfl⟩
  have hsz : W0.heap.size = w.heap.size + 1 := by rw [hW0]; simp
  rw [← hW0] at hbox2 hbox3 HB0
  have hbelow1 : Below W0.heap.size W0 (W0.alloc (.cells #[.int .i64 hi, .int .i64 lo] 89)) := (Below.refl _ _).alloc (Nat.le_refl _) _
  have hr1 : IsR (W0.alloc (.cells #[.int .i64 hi, .int .i64 lo] 89)) W0.heap.size hi lo := heap_alloc_new W0 _
  obtain ⟨W1, hW1⟩ : ∃ W1, W1 = W0.alloc (.cells #[.int .i64 hi, .int .i64 lo] 89) := ⟨_, rfl⟩
  have hsz1 : W1.heap.size = w.heap.size + 2 := by rw [hW1]; simp [hsz]
  rw [← hW1] at hbelow1 hr1
  have HBOX2 := Lib.hid hbox2
  have HBOX3 := Lib.hid hbox3
  have HW0 := Lib.hid hW0
  have HW1 := Lib.hid hW1
  have HSZ := Lib.hid hsz
  have HSZ1 := Lib.hid hsz1
  have HBEL1 := Lib.hid hbelow1
  have HR1 := Lib.hid hr1
  clear hW0 hW1 hsz hsz1 hbox2 hbox3 hbelow1 hr1 hr hv hcase hlo hhi ha0
  go_enter Try.func13, Try.ntmps13
  go_wp2_with fail
  rw [← HW0.out]
  refine (new_yes hi lo _ HLH.out).mono ?_; rintro e w' ⟨rfl, rfl⟩
  rw [← HW1.out]
  have hb2 : W1.cell? ⟨w.heap.size, 2, none⟩ = some (.int .i64 a0) := (HBEL1.out.cell (p := ⟨w.heap.size, 2, none⟩) (by have := HSZ.out; simp; omega)).trans HBOX2.out
  go_wp2_with fail
  refine (num_calls 0 _).mono ?_; rintro e w' ⟨rfl, rfl⟩
  go_wp2_with fail
  refine (near_calls W0.heap.size hi lo a0 _ HR1.out).mono ?_; rintro e w' ⟨rfl, ⟨nd, rfl⟩⟩
  go_wp2_with fail
  go_loopw [7, 8] (fun av i wr => ∃ (k : Nat) (a : Int), k ≤ xs.length ∧ i = .int .i64 k ∧ av = .int .i64 a ∧ hi ≤ a ∧ a ≤ lo ∧ Below W1.heap.size W1 wr) (fun _ i _ => xs.length - (intOf i).toNat)
  case atStart => exact ⟨0, _, Nat.zero_le _, rfl, rfl, HNI.out.1, HNI.out.2, pw_below_drewN (Below.refl _ _) nd⟩
  case round =>
    obtain ⟨k, a, hk, rfl, rfl, hla, hah, hbel⟩ := hrel
    have HLA := Lib.hid hla
    have HAH := Lib.hid hah
    have HBEL := Lib.hid hbel
    clear hbel hla hah
    have hbx3 : wr.cell? ⟨w.heap.size, 3, none⟩ = some (.slice A xs.length c) := (HBEL.out.cell (p := ⟨w.heap.size, 3, none⟩) (by have := HSZ1.out; simp; omega)).trans ((HBEL1.out.cell (p := ⟨w.heap.size, 3, none⟩) (by have := HSZ.out; simp; omega)).trans HBOX3.out)
    have hRr : IsR wr W0.heap.size hi lo := HR1.out.below HBEL.out (by have := HSZ1.out; have := HSZ.out; omega)
    have HRR := Lib.hid hRr
    have hIa : I64 a := by have h1 := HLO.out; have h2 := HHI.out; have h3 := HLA.out; have h4 := HAH.out; unfold I64 at *; omega
    have HIA := Lib.hid hIa
    clear hRr hIa
    have hfin : Below w.heap.size w wr := HB0.out.trans ((HBEL1.out.mono (by have := HSZ.out; omega)).trans (HBEL.out.mono (by have := HSZ1.out; omega)))
    have HFIN := Lib.hid hfin
    clear hfin
    by_cases hlt : k < xs.length
    · have hCr : (Kd.int .i64).C wr A xs.length xs := Kd.C_below (Kd.C_below (Kd.C_below HR.out HB0.out) HBEL1.out) HBEL.out
      obtain ⟨ad, rfl, hcell⟩ := Kd.at_int hCr k (by omega) (by omega)
      rw [Int.toNat_natCast] at hcell
      clear hCr
      have hch : I64 (rd xs k) := by rw [Total.rd_get xs k hlt]; exact HV.out _ (List.getElem_mem hlt)
      obtain ⟨ch, hchd⟩ : ∃ ch, ch = rd xs k := ⟨_, rfl⟩
      rw [← hchd] at hcell hch
      clear hchd
      obtain ⟨s0, hs0⟩ : ∃ s0, s0 = slackOf hi lo a 0 := ⟨_, rfl⟩
      obtain ⟨s1, hs1⟩ : ∃ s1, s1 = slackOf hi lo a 1 := ⟨_, rfl⟩
      have HS0 := Lib.hid (slack_calls W0.heap.size hi lo a 0 wr HRR.out HLO.out HHI.out HIA.out)
      have HS1 := Lib.hid (slack_calls W0.heap.size hi lo a 1 wr HRR.out HLO.out HHI.out HIA.out)
      rw [← hs0] at HS0
      rw [← hs1] at HS1
      have hsum : (IntKind.u64.wrap (s0 + s1) != IntKind.u64.wrap (IntKind.u64.wrap lo - IntKind.u64.wrap hi)) = false := by
        have h3 := HLA.out; have h4 := HAH.out; have h1 := HLO.out; have h2 := HHI.out
        rw [hs0, hs1]; unfold slackOf
        rw [if_pos ⟨h3, h4⟩, if_pos rfl, if_pos ⟨h3, h4⟩, if_neg (by decide), if_pos rfl, bne_eq_false_iff_eq, u64_sub lo hi h2 h1 (by omega), IntKind.wrap_u64]
        unfold I64 at *; omega
      have HHAS := Lib.hid (has_calls W0.heap.size hi lo a wr HRR.out true (by have h3 := HLA.out; have h4 := HAH.out; simp [h3, h4]))
      have HMV := Lib.hid (move_calls W0.heap.size hi lo a ch wr HRR.out HLO.out HHI.out HIA.out hch)
      have HNEG := Lib.hid (neg_calls ch hch wr)
      clear hs0 hs1
      by_cases hin : hi ≤ a + ch ∧ a + ch ≤ lo
      · have hm1 : moveOf hi lo a ch = (a + ch, true) := by unfold moveOf; rw [if_pos ⟨⟨HLA.out, HAH.out⟩, hin⟩]
        rw [hm1] at HMV
        have hb64 : I64 (a + ch) := by have h1 := HLO.out; have h2 := HHI.out; unfold I64 at *; omega
        have HHAS2 := Lib.hid (has_calls W0.heap.size hi lo (a + ch) wr HRR.out true (by simp [hin]))
        obtain ⟨b, hbd⟩ : ∃ b, b = a + ch := ⟨_, rfl⟩
        have hmb : I64 (-ch) → moveOf hi lo b (-ch) = (a, true) := by
          intro _; subst hbd
          have e : a + ch + -ch = a := by omega
          unfold moveOf; rw [e, if_pos ⟨hin, HLA.out, HAH.out⟩]
        rw [← hbd] at HMV HHAS2 hb64
        have hbr : hi ≤ b ∧ b ≤ lo := by rw [hbd]; exact hin
        have HBR := Lib.hid hbr
        clear hm1 hin hbd hbr
        by_cases hm : I64 (-ch)
        · rw [fit_in hm] at HNEG
          have HMV2 := Lib.hid (move_calls W0.heap.size hi lo b (-ch) wr HRR.out HLO.out HHI.out hb64 hm)
          rw [hmb hm] at HMV2
          clear hm hmb hb64 hch
          go_wp2_with fail
          refine HHAS.out.mono ?_; rintro e w' ⟨rfl, rfl⟩
          go_wp2_with fail
          refine HS0.out.mono ?_; rintro e w' ⟨rfl, rfl⟩
          go_wp2_with fail
          refine HS1.out.mono ?_; rintro e w' ⟨rfl, rfl⟩
          go_wp2_with fail
          refine HMV.out.mono ?_; rintro e w' ⟨rfl, rfl⟩
          go_wp2_with fail
          refine HNEG.out.mono ?_; rintro e w' ⟨rfl, rfl⟩
          go_wp2_with fail
          refine HHAS2.out.mono ?_; rintro e w' ⟨rfl, rfl⟩
          go_wp2_with fail
          refine HMV2.out.mono ?_; rintro e w' ⟨rfl, rfl⟩
          go_wp2_with fail
          go_roundw
          case rel => exact ⟨k + 1, b, by omega, by go_num, rfl, HBR.out.1, HBR.out.2, HBEL.out⟩
          case measure => simp [intOf]; omega
        · rw [fit_out hm] at HNEG
          have HMV2 := Lib.hid (move_calls W0.heap.size hi lo b 0 wr HRR.out HLO.out HHI.out hb64 (by unfold I64; omega))
          clear hm hmb hb64 hch
          go_wp2_with fail
          refine HHAS.out.mono ?_; rintro e w' ⟨rfl, rfl⟩
          go_wp2_with fail
          refine HS0.out.mono ?_; rintro e w' ⟨rfl, rfl⟩
          go_wp2_with fail
          refine HS1.out.mono ?_; rintro e w' ⟨rfl, rfl⟩
          go_wp2_with fail
          refine HMV.out.mono ?_; rintro e w' ⟨rfl, rfl⟩
          go_wp2_with fail
          refine HNEG.out.mono ?_; rintro e w' ⟨rfl, rfl⟩
          go_wp2_with fail
          refine HHAS2.out.mono ?_; rintro e w' ⟨rfl, rfl⟩
          go_wp2_with fail
          refine HMV2.out.mono ?_; rintro e w' ⟨rfl, rfl⟩
          go_wp2_with fail
          go_roundw
          case rel => exact ⟨k + 1, b, by omega, by go_num, rfl, HBR.out.1, HBR.out.2, HBEL.out⟩
          case measure => simp [intOf]; omega
      · have hm1 : moveOf hi lo a ch = (0, false) := by unfold moveOf; rw [if_neg (fun h => hin h.2)]
        rw [hm1] at HMV
        have HCF := Lib.hid (cut_f hi lo a ch HIA.out hch HLO.out HHI.out ⟨HLA.out, HAH.out⟩)
        have HCI := Lib.hid (cutTo_in hi lo a ch ⟨HLA.out, HAH.out⟩)
        have HCUT := Lib.hid (tilllaw3_cut.calls 2 W0.heap.size hi lo a ch _ _ _ _ W0 wr ⟨HRR.out, Nat.le_refl _⟩ (HBEL1.out.trans (HBEL.out.mono (by have := HSZ1.out; have := HSZ.out; omega))) HCF.out)
        clear hm1 hin hch
        generalize a + cutTo hi lo a ch = b at *
        go_wp2_with fail
        refine HHAS.out.mono ?_; rintro e w' ⟨rfl, rfl⟩
        go_wp2_with fail
        refine HS0.out.mono ?_; rintro e w' ⟨rfl, rfl⟩
        go_wp2_with fail
        refine HS1.out.mono ?_; rintro e w' ⟨rfl, rfl⟩
        go_wp2_with fail
        refine HMV.out.mono ?_; rintro e w' ⟨rfl, rfl⟩
        go_wp2_with fail
        refine HNEG.out.mono ?_; rintro e w' ⟨rfl, rfl⟩
        go_wp2_with fail
        refine HCUT.out.mono ?_; rintro e w2 ⟨rfl, hI2, hB2, hK2⟩
        have HB2 := Lib.hid (below_of_keep (HBEL1.out.trans (HBEL.out.mono (by have := HSZ1.out; have := HSZ.out; omega))) hB2 hK2 HRR.out hI2.1)
        clear hI2 hB2 hK2
        go_wp2_with fail
        go_roundw
        case rel => exact ⟨k + 1, b, by omega, by go_num, rfl, HCI.out.1, HCI.out.2, HBEL.out.trans (HB2.out.mono HBEL.out.size)⟩
        case measure => simp [intOf]; omega
    · have HNR := Lib.hid (near_calls W0.heap.size hi lo a wr HRR.out)
      rw [near_self hi lo a HLA.out HAH.out] at HNR
      go_wp2_with fail
      refine HNR.out.mono ?_; rintro e w' ⟨rfl, ⟨nd2, rfl⟩⟩
      go_wp2_with fail
      go_ret
      exact ⟨by simp, pw_below_drewN HFIN.out nd2⟩

theorem in64 {n : Int} (h : (Lit.int .i64 n).wf = true) : I64 n := by
  simpa [Lit.wf, IntKind.min, IntKind.max, IntKind.signed, IntKind.bits, I64] using h
abbrev KI := Kd.int .i64
abbrev V (n : Int) : Prop := (Lit.int .i64 n).wf = true
theorem opens_Walk : Opens Try.prog 78 (Kd.pair KI (Kd.pair KI (Kd.pair KI (Kd.slice 2 KI)))) (fun x => V x.1 ∧ V x.2.1 ∧ V x.2.2.1 ∧ ∀ a, a ∈ x.2.2.2 → V a) (fun x => 1 + (1 + (1 + (sumB (fun _ => 1) x.2.2.2 + 1))) + 1) :=
  opens_struct Try.underlying78 (by kernel_rfl) (opensF_cons (opens_int Try.underlying2 (by kernel_rfl)) (opensF_cons (opens_int Try.underlying2 (by kernel_rfl)) (opensF_cons (opens_int Try.underlying2 (by kernel_rfl)) (opensF_one (opens_slice Try.underlying49 (by kernel_rfl) (opens_int Try.underlying2 (by kernel_rfl)))) rfl) rfl) rfl)
theorem contract {H : Type} {enc : TypeId × Value → H} (W : World) (base : Nat) (v0 : Value) (d0 : DataW H) (p0 : List MemPlace) (hok : Value.okWide Try.prog W .any base 78 v0)
    (h0 : DataW.Trod enc Try.prog W 0 (fun _ => true) true 78 v0 d0 p0) (hlt : ∀ x ∈ p0, x.block < W.heap.size) (hsz : (DataW.weightsEach Try.prog [78] [d0]).all (· ≤ reachBytes) = true) :
    Calls Try.prog 13 #[v0] W fun e W' => e = .returned (.bool true) ∧ Below W.heap.size W W' := by
  obtain ⟨⟨lo, hi, a, xs⟩, cs, rfl, hK, hV, _⟩ := open_arg Try.underlying78 opens_Walk hok h0
  obtain ⟨c0, c1, hcs, rfl, c2, c3, rfl, rfl, c4, c5, rfl, rfl, A, c, rfl, hl, hC⟩ := hK
  obtain rfl : cs = #[.int .i64 lo, .int .i64 hi, .int .i64 a, .slice A xs.length c] := by cases cs; simp at hcs; rw [hcs]
  by_cases h : lo ≤ hi
  · exact walk_up lo hi a xs A c W (in64 hV.1) (in64 hV.2.1) (in64 hV.2.2.1) h hC (fun b hb => in64 (hV.2.2.2 b hb))
  · exact walk_down lo hi a xs A c W (in64 hV.1) (in64 hV.2.1) (in64 hV.2.2.1) (by omega) hC (fun b hb => in64 (hV.2.2.2 b hb))
end Go.Proofs.Ytidofjmflpcglaa.SumWalks
