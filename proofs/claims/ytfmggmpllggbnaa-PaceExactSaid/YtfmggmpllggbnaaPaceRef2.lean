/- The document's own pace: Tick and Wait. -/
import Derived.Test.YtfmggmpllggbnaaPaceRef
import Derived.Deep.RegionHeld3
namespace Go.Proofs.Ytfmggmpllggbnaa.Pace
open Go.RowKit
set_option linter.unusedVariables false
set_option linter.unusedSimpArgs false
theorem T.up {most n : Int} {K : Nat} (h : T most n K) (hm : 1 ≤ most ∧ most ≤ 64) (hn : 0 ≤ n) : (ag most K).1 ≤ n + 64 := by
  cases K with
  | zero => simp [ag]; omega
  | succ k => have := h.lo k (Nat.lt_succ_self k); have := ag_gap most hm k; simp only [ag]; omega
theorem T.num {most n : Int} {K : Nat} (h : T most n K) (hm : 1 ≤ most ∧ most ≤ 64) (hn : 0 ≤ n) : (K : Int) ≤ n + 64 := by
  have := ag_at most hm K; have := h.up hm hn; omega
set_option maxHeartbeats 1600000 in
theorem qwait_calls (g : Nat) (most n : Int) (w : World) (h : IsQ w g most n) (hm : 1 ≤ most ∧ most ≤ 64) (hn : 0 ≤ n ∧ n ≤ 100000) :
    Calls Try.prog 16 #[ptr g] w fun e w' => (n = 0 → e = .returned (.int .i64 0)) ∧ (n ≠ 0 → ∃ K, T most n K ∧ e = .returned (.int .i64 ((ag most K).1 - n))) ∧ w.grownBy w' (some g) ∧ IsQ w' g most n := by
  have c0 : w.cell? ⟨g, 0, none⟩ = some (.int .i64 most) := h.cell 0
  have c1 : w.cell? ⟨g, 1, none⟩ = some (.int .i64 n) := h.cell 1
  have HT := Lib.hid (times_calls most n · hm hn)
  have H := Lib.hid h
  clear h
  by_cases h0 : n = 0
  · subst h0
    go_enter Try.func16, Try.ntmps16
    go_wp2
    go_ret
    exact ⟨fun _ => rfl, fun h => absurd rfl h, only_refl _ _, H.out⟩
  · have d : (n == 0) = false := by rw [beq_eq_false_iff_ne]; exact h0
    go_enter Try.func16, Try.ntmps16
    go_wp2_with fail
    go_region_held3 (fun w' => w'.cell? ⟨g, 0, none⟩ = some (.int .i64 most) ∧ w'.cell? ⟨g, 1, none⟩ = some (.int .i64 n)) (go_keep)
      (first | (go_at_call 35; refine (HT.out _).mono ?_; rintro e w9 ⟨K, rfl, hT, rfl⟩; have HK := Lib.hid hT; have hup := hT.up hm hn.1; have hlt := hT.hi; clear hT))
    go_wp2_with fail
    go_ret
    exact ⟨fun h => absurd h h0, fun _ => ⟨K, HK.out, rfl⟩, only_drewN (only_refl _ _) _, H.out⟩
set_option maxHeartbeats 1600000 in
theorem qtick_calls (g : Nat) (most n : Int) (w : World) (h : IsQ w g most n) (hm : 1 ≤ most ∧ most ≤ 64) (hn : 0 ≤ n ∧ n ≤ 99999) :
    Calls Try.prog 12 #[ptr g] w fun e w' => (∃ K K', T most n K ∧ T most (n + 1) K' ∧ e = .returned (.bool (decide (K < K')))) ∧ IsQ w' g most (n + 1) ∧ w.grownBy w' (some g) := by
  have c0 : w.cell? ⟨g, 0, none⟩ = some (.int .i64 most) := h.cell 0
  have c1 : w.cell? ⟨g, 1, none⟩ = some (.int .i64 n) := h.cell 1
  have f1 := h.frozen 1
  have HT := Lib.hid (times_calls most n · hm (by omega))
  have HT2 := Lib.hid (times_calls most (n + 1) · hm (by omega))
  have H := Lib.hid h
  clear h
  go_enter Try.func12, Try.ntmps12
  go_wp2_with fail
  go_region_held3 (fun w' => w'.cell? ⟨g, 0, none⟩ = some (.int .i64 most) ∧ w'.cell? ⟨g, 1, none⟩ = some (.int .i64 n)) (go_keep)
    (first | (go_at_call 35; refine (HT.out _).mono ?_; rintro e w9 ⟨K, rfl, hT, rfl⟩; have HK := Lib.hid hT; have hup := hT.num hm hn.1; clear hT))
  go_wp2_with fail
  obtain ⟨W1, hW1⟩ : ∃ W1, W1 = (w.setCell ⟨g, 1, none⟩ (.int .i64 (n + 1))).drew := ⟨_, rfl⟩
  have hQ : IsQ W1 g most (n + 1) := by rw [hW1]; exact H.out.set1 _
  have hG : w.grownBy W1 (some g) := by rw [hW1]; exact only_drew (only_set (only_refl _ _) _ _)
  rw [← hW1]
  have HQ := Lib.hid hQ
  have HG := Lib.hid hG
  have d0 : W1.cell? ⟨g, 0, none⟩ = some (.int .i64 most) := hQ.cell 0
  have d1 : W1.cell? ⟨g, 1, none⟩ = some (.int .i64 (n + 1)) := hQ.cell 1
  clear hW1 hQ hG c0 c1
  go_region_held3 (fun w' => w'.cell? ⟨g, 0, none⟩ = some (.int .i64 most) ∧ w'.cell? ⟨g, 1, none⟩ = some (.int .i64 (n + 1))) (go_keep)
    (first | (go_at_call 35; refine (HT2.out _).mono ?_; rintro e w9 ⟨K2, rfl, hT, rfl⟩; have HK2 := Lib.hid hT; have hup2 := hT.num hm (by omega); clear hT))
  go_wp2_with fail
  go_ret
  refine ⟨⟨K, K2, HK.out, HK2.out, ?_⟩, HQ.out, only_drewN HG.out _⟩
  simp [decide_eq_decide]
end Go.Proofs.Ytfmggmpllggbnaa.Pace
