/- The plain law of tilllaw3.asked: whatever is asked of a range, both answers are alike. -/
import Derived.Test.YtidofjmflpcglaaRange2
import Derived.Test.YtidofjmflpcglaaPSumRangesx2
namespace Go.Proofs.Ytidofjmflpcglaa.Asked
open Go.RowKit Go.Proofs.Ytidofjmflpcglaa.SumPlain Go.Proofs.YtidofjmflpcglaaW.PrintWords Go.Proofs.YtidofjmflpcglaaW.PrintMore Go.Proofs.Ytidofjmflpcglaa.Mul Go.Proofs.Ytidofjmflpcglaa.Rng Go.Proofs.Ytidofjmflpcglaa.PSumRanges
set_option linter.unusedVariables false
set_option linter.unusedSimpArgs false
theorem has_f (lo hi a : Int) : sum_Range_Has.f lo hi a = some (decide (lo ≤ a ∧ a ≤ hi), lo, hi) := by
  unfold sum_Range_Has.f
  by_cases h : lo ≤ a
  · rw [if_pos h]; simp [h]
  · rw [if_neg h]; simp [h]
theorem rhas_f (lo hi a : Int) : tillref3_Has.f lo hi a = some (decide (lo ≤ a ∧ a ≤ hi)) := by
  unfold tillref3_Has.f
  by_cases h : lo ≤ a
  · rw [if_pos h]; simp [h]
  · rw [if_neg h]; simp [h]
theorem move_f (lo hi a ch : Int) (ha : I64 a) (hc : I64 ch) (hlo : I64 lo) (hhi : I64 hi) : sum_Range_Move.f lo hi a ch = some ((moveOf lo hi a ch).1, (moveOf lo hi a ch).2, lo, hi) := by
  unfold sum_Range_Move.f
  have hadd : sum_Add.f a ch = some (fit (a + ch)) := add_eq a ch ha hc
  rw [hadd, Option.bind_some, has_f, Option.bind_some, has_f, Option.bind_some]
  unfold moveOf
  by_cases c0 : I64 (a + ch)
  · rw [fit_in c0]
    by_cases c1 : lo ≤ a ∧ a ≤ hi
    · by_cases c2 : lo ≤ a + ch ∧ a + ch ≤ hi
      · simp [c1, c2]
      · rw [if_neg (c := (lo ≤ a ∧ a ≤ hi) ∧ lo ≤ a + ch ∧ a + ch ≤ hi) (fun h => c2 h.2)]; simp [c1, c2]
    · rw [if_neg (c := (lo ≤ a ∧ a ≤ hi) ∧ lo ≤ a + ch ∧ a + ch ≤ hi) (fun h => c1 h.1)]; simp [c1]
  · rw [fit_out c0, if_neg (c := (lo ≤ a ∧ a ≤ hi) ∧ lo ≤ a + ch ∧ a + ch ≤ hi) (by unfold I64 at *; omega)]; simp
theorem rmove_f (lo hi a ch : Int) (ha : I64 a) (hc : I64 ch) (hlo : I64 lo) (hhi : I64 hi) : tillref3_Move.f lo hi a ch = some (moveOf lo hi a ch) := by
  unfold tillref3_Move.f
  have hadd : tillref3_Add.f a ch = some (fit (a + ch)) := radd_eq a ch ha hc
  rw [hadd, Option.bind_some, rhas_f, Option.bind_some, rhas_f, Option.bind_some]
  unfold moveOf
  by_cases c0 : I64 (a + ch)
  · rw [fit_in c0]
    by_cases c1 : lo ≤ a ∧ a ≤ hi
    · by_cases c2 : lo ≤ a + ch ∧ a + ch ≤ hi
      · simp [c1, c2]
      · rw [if_neg (c := (lo ≤ a ∧ a ≤ hi) ∧ lo ≤ a + ch ∧ a + ch ≤ hi) (fun h => c2 h.2)]; simp [c1, c2]
    · rw [if_neg (c := (lo ≤ a ∧ a ≤ hi) ∧ lo ≤ a + ch ∧ a + ch ≤ hi) (fun h => c1 h.1)]; simp [c1]
  · rw [fit_out c0, if_neg (c := (lo ≤ a ∧ a ≤ hi) ∧ lo ≤ a + ch ∧ a + ch ≤ hi) (by unfold I64 at *; omega)]; simp
theorem asked_f (lo hi q0 a ch way : Int) (hlh : lo ≤ hi) (hlo : I64 lo) (hhi : I64 hi) (ha : I64 a) (hc : I64 ch) : tilllaw3_asked.f lo hi lo hi q0 a ch way = some (true, lo, hi) := by
  unfold tilllaw3_asked.f
  rw [move_f lo hi a ch ha hc hlo hhi, Option.bind_some, rmove_f lo hi a ch ha hc hlo hhi, Option.bind_some]
  have hs : tilllaw3_same.f (moveOf lo hi a ch).1 (moveOf lo hi a ch).2 (moveOf lo hi a ch).1 (moveOf lo hi a ch).2 = some true := by unfold tilllaw3_same.f; rw [if_pos rfl]; simp
  simp only [hs, Option.bind_some, if_true, has_f, rhas_f, BEq.rfl]
  have hn : sum_Range_Near.f lo hi a = some (mx lo (mn a hi), lo, hi) := rfl
  have hrn : tillref3_Near.f lo hi a = some (mx lo (mn a hi)) := by
    unfold tillref3_Near.f mx mn
    repeat' split
    all_goals first | rfl | (congr 1; omega) | omega
  simp only [hn, hrn, Option.bind_some, if_true]
  have hsl : ∃ s, sum_Range_Slack.f lo hi a way = some (s, lo, hi) ∧ tillref3_Slack.f lo hi a way = some s := by
    unfold sum_Range_Slack.f tillref3_Slack.f
    rw [has_f, rhas_f]
    simp only [Option.bind_some]
    by_cases h : lo ≤ a ∧ a ≤ hi
    · rw [decide_eq_true h, if_pos rfl, if_pos rfl]
      by_cases h0 : way = 0
      · rw [if_pos h0, if_pos h0]; exact ⟨_, rfl, rfl⟩
      · rw [if_neg h0, if_neg h0]
        by_cases h1 : way = 1
        · rw [if_pos h1, if_pos h1]; exact ⟨_, rfl, rfl⟩
        · rw [if_neg h1, if_neg h1]; exact ⟨_, rfl, rfl⟩
    · rw [decide_eq_false h, if_neg (by decide), if_neg (by decide)]; exact ⟨_, rfl, rfl⟩
  obtain ⟨s, h1, h2⟩ := hsl
  simp only [h1, h2, Option.bind_some, BEq.rfl]
theorem below_of_keep {w0 w w' : World} {g : Nat} {lo hi : Int} (hb : Below w0.heap.size w0 w) (hb' : Below w0.heap.size w0 w') (hk : KeepBut w w' g none) (h : IsR w g lo hi) (h' : IsR w' g lo hi) : Below w.heap.size w w' :=
  ⟨hb'.os.trans hb.os.symm, hb'.tape.trans hb.tape.symm, hb'.output.trans hb.output.symm, hk.1, fun i hi => by
    by_cases e : i = g
    · subst e; exact h'.trans h.symm
    · exact hk.2 i hi e (by simp)⟩
/-- Both answers alike, and nothing has turned. -/
theorem asked_calls (g : Nat) (lo hi q0 a ch way : Int) (w0 w : World) (h : IsR w g lo hi) (hg : w0.heap.size ≤ g) (hB : Below w0.heap.size w0 w) (hlh : lo ≤ hi) (hlo : I64 lo) (hhi : I64 hi) (ha : I64 a) (hc : I64 ch) :
    Calls Try.prog 29 #[ptr g, .int .i64 lo, .int .i64 hi, .agg #[.int .i64 q0, .int .i64 a, .int .i64 ch, .int .i64 way]] w fun e w' => e = .returned (.bool true) ∧ Below w.heap.size w w' :=
  (tilllaw3_asked.calls g lo hi lo hi q0 a ch way true lo hi w0 w ⟨h, hg⟩ hB (asked_f lo hi q0 a ch way hlh hlo hhi ha hc)).mono fun e w' ⟨he, hI, hb, hk⟩ => ⟨he, below_of_keep hB hb hk h hI.1⟩
end Go.Proofs.Ytidofjmflpcglaa.Asked
