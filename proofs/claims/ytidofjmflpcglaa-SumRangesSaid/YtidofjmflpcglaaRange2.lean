/- Contracts of sum.Range's Slack and Move, of the document's Has, Near, Move, Slack. -/
import Derived.Test.YtidofjmflpcglaaRange
namespace Go.Proofs.Ytidofjmflpcglaa.Rng
open Go.RowKit Go.Proofs.Ytidofjmflpcglaa.SumPlain Go.Proofs.YtidofjmflpcglaaW.PrintWords Go.Proofs.YtidofjmflpcglaaW.PrintMore Go.Proofs.Ytidofjmflpcglaa.Mul
set_option linter.unusedVariables false
set_option linter.unusedSimpArgs false
def slackOf (lo hi a way : Int) : Int := if lo ≤ a ∧ a ≤ hi then (if way = 0 then a - lo else if way = 1 then hi - a else 0) else 0
def moveOf (lo hi a ch : Int) : Int × Bool := if (lo ≤ a ∧ a ≤ hi) ∧ (lo ≤ a + ch ∧ a + ch ≤ hi) then (a + ch, true) else (0, false)
theorem u64_sub (a b : Int) (ha : I64 a) (hb : I64 b) (h : b ≤ a) : IntKind.u64.wrap (IntKind.u64.wrap a - IntKind.u64.wrap b) = a - b := by
  unfold I64 at ha hb; simp only [IntKind.wrap_u64]; omega
theorem slack_calls (g : Nat) (lo hi a way : Int) (w : World) (h : IsR w g lo hi) (hlo : I64 lo) (hhi : I64 hi) (ha : I64 a) :
    Calls Try.prog 39 #[ptr g, .int .i64 a, .int .i64 way] w fun e w' => e = .returned (.int .u64 (slackOf lo hi a way)) ∧ w = w' := by
  have h0 := h.lo
  have h1 := h.hi
  by_cases c1 : lo ≤ a ∧ a ≤ hi
  · have H := Lib.hid (has_calls g lo hi a w h true (by simp [c1]))
    by_cases c2 : way = 0
    · subst c2
      have hs : slackOf lo hi a 0 = a - lo := by unfold slackOf; rw [if_pos c1, if_pos rfl]
      rw [hs, ← u64_sub a lo ha hlo c1.1]
      clear hs h c1 hlo hhi ha
      go_enter Try.func39, Try.ntmps39
      go_wp2_with fail
      refine H.out.mono ?_; rintro e w' ⟨rfl, rfl⟩
      go_wp2
      go_ret
      exact ⟨rfl, rfl⟩
    · have d2 : (way == 0) = false := by simpa using c2
      by_cases c3 : way = 1
      · subst c3
        have hs : slackOf lo hi a 1 = hi - a := by unfold slackOf; rw [if_pos c1, if_neg (by decide), if_pos rfl]
        rw [hs, ← u64_sub hi a hhi ha c1.2]
        clear hs h c1 hlo hhi ha c2 d2
        go_enter Try.func39, Try.ntmps39
        go_wp2_with fail
        refine H.out.mono ?_; rintro e w' ⟨rfl, rfl⟩
        go_wp2
        go_ret
        exact ⟨rfl, rfl⟩
      · have d3 : (way == 1) = false := by simpa using c3
        have hs : slackOf lo hi a way = 0 := by unfold slackOf; rw [if_pos c1, if_neg c2, if_neg c3]
        rw [hs]
        clear hs h c1 hlo hhi ha c2 c3
        go_enter Try.func39, Try.ntmps39
        go_wp2_with fail
        refine H.out.mono ?_; rintro e w' ⟨rfl, rfl⟩
        go_wp2
        go_ret
        exact ⟨rfl, rfl⟩
  · have H := Lib.hid (has_calls g lo hi a w h false (by simp [c1]))
    have hs : slackOf lo hi a way = 0 := by unfold slackOf; rw [if_neg c1]
    rw [hs]
    clear hs h c1 hlo hhi ha
    go_enter Try.func39, Try.ntmps39
    go_wp2_with fail
    refine H.out.mono ?_; rintro e w' ⟨rfl, rfl⟩
    go_wp2
    go_ret
    exact ⟨rfl, rfl⟩
theorem move_calls (g : Nat) (lo hi a ch : Int) (w : World) (h : IsR w g lo hi) (hlo : I64 lo) (hhi : I64 hi) (ha : I64 a) (hc : I64 ch) :
    Calls Try.prog 40 #[ptr g, .int .i64 a, .int .i64 ch] w fun e w' => e = .returned (.tuple #[.int .i64 (moveOf lo hi a ch).1, .bool (moveOf lo hi a ch).2]) ∧ w = w' := by
  have A := Lib.hid (add_calls a ch ha hc w)
  by_cases c0 : I64 (a + ch)
  · rw [fit_in c0] at A
    by_cases c1 : lo ≤ a ∧ a ≤ hi
    · have H := Lib.hid (has_calls g lo hi a w h true (by simp [c1]))
      by_cases c2 : lo ≤ a + ch ∧ a + ch ≤ hi
      · have H2 := Lib.hid (has_calls g lo hi (a + ch) w h true (by simp [c2]))
        have hs : moveOf lo hi a ch = (a + ch, true) := by unfold moveOf; rw [if_pos ⟨c1, c2⟩]
        rw [hs]
        clear hs h c0 c1 c2 hlo hhi ha hc
        go_enter Try.func40, Try.ntmps40
        go_wp2_with fail
        refine A.out.mono ?_; rintro e w' ⟨rfl, rfl⟩
        go_wp2_with fail
        refine H.out.mono ?_; rintro e w' ⟨rfl, rfl⟩
        go_wp2_with fail
        refine H2.out.mono ?_; rintro e w' ⟨rfl, rfl⟩
        go_wp2
        go_ret2
        exact ⟨rfl, rfl⟩
      · have H2 := Lib.hid (has_calls g lo hi (a + ch) w h false (by simp [c2]))
        have hs : moveOf lo hi a ch = (0, false) := by unfold moveOf; rw [if_neg (fun h => c2 h.2)]
        rw [hs]
        clear hs h c0 c1 c2 hlo hhi ha hc
        go_enter Try.func40, Try.ntmps40
        go_wp2_with fail
        refine A.out.mono ?_; rintro e w' ⟨rfl, rfl⟩
        go_wp2_with fail
        refine H.out.mono ?_; rintro e w' ⟨rfl, rfl⟩
        go_wp2_with fail
        refine H2.out.mono ?_; rintro e w' ⟨rfl, rfl⟩
        go_wp2
        go_ret2
        exact ⟨rfl, rfl⟩
    · have H := Lib.hid (has_calls g lo hi a w h false (by simp [c1]))
      have hs : moveOf lo hi a ch = (0, false) := by unfold moveOf; rw [if_neg (fun h => c1 h.1)]
      rw [hs]
      clear hs h c0 c1 hlo hhi ha hc
      go_enter Try.func40, Try.ntmps40
      go_wp2_with fail
      refine A.out.mono ?_; rintro e w' ⟨rfl, rfl⟩
      go_wp2_with fail
      refine H.out.mono ?_; rintro e w' ⟨rfl, rfl⟩
      go_wp2
      go_ret2
      exact ⟨rfl, rfl⟩
  · rw [fit_out c0] at A
    have hs : moveOf lo hi a ch = (0, false) := by
      unfold moveOf; rw [if_neg]; unfold I64 at *; omega
    rw [hs]
    clear hs h c0 hlo hhi ha hc
    go_enter Try.func40, Try.ntmps40
    go_wp2_with fail
    refine A.out.mono ?_; rintro e w' ⟨rfl, rfl⟩
    go_wp2
    go_ret2
    exact ⟨rfl, rfl⟩
end Go.Proofs.Ytidofjmflpcglaa.Rng
