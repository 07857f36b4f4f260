/- Contracts of sum.Range's methods and of sum.New: a range is a block of two numbers. -/
import Derived.Test.YtidofjmflpcglaaAdd
import Derived.Test.YtidofjmflpcglaaWMore
import Derived.Deep.QuietTactic
import Derived.BigQuiet
namespace Go.Proofs.Ytidofjmflpcglaa.Rng
open Go.RowKit Go.Proofs.Ytidofjmflpcglaa.SumPlain Go.Proofs.YtidofjmflpcglaaW.PrintWords Go.Proofs.YtidofjmflpcglaaW.PrintMore Go.Proofs.Ytidofjmflpcglaa.Mul
set_option linter.unusedVariables false
set_option linter.unusedSimpArgs false
/-- The range from lo to hi lies in block g. -/
def IsR (w : World) (g : Nat) (lo hi : Int) : Prop := w.heap[g]? = some (.cells #[.int .i64 lo, .int .i64 hi] 89 (0, 0))
theorem IsR.lo {w : World} {g : Nat} {lo hi : Int} (h : IsR w g lo hi) : w.cell? ⟨g, 0, none⟩ = some (.int .i64 lo) := blk_cell h 0
theorem IsR.hi {w : World} {g : Nat} {lo hi : Int} (h : IsR w g lo hi) : w.cell? ⟨g, 1, none⟩ = some (.int .i64 hi) := blk_cell h 1
theorem IsR.below {w w' : World} {B g : Nat} {lo hi : Int} (h : IsR w g lo hi) (hb : Below B w w') (hg : g < B) : IsR w' g lo hi := (hb.block g hg).trans h
theorem IsR.lt {w : World} {g : Nat} {lo hi : Int} (h : IsR w g lo hi) : g < w.heap.size := blk_lt h
abbrev ptr (g : Nat) : Value := .pointer (some ⟨g, 0, none⟩)

theorem has_calls (g : Nat) (lo hi a : Int) (w : World) (h : IsR w g lo hi) (b : Bool) (hb : b = decide (lo ≤ a ∧ a ≤ hi)) :
    Calls Try.prog 30 #[ptr g, .int .i64 a] w fun e w' => e = .returned (.bool b) ∧ w = w' := by
  have h0 := h.lo
  have h1 := h.hi
  clear h
  by_cases c1 : lo ≤ a
  · have d1 : decide (lo ≤ a) = true := decide_eq_true c1
    by_cases c2 : a ≤ hi
    · have d2 : decide (a ≤ hi) = true := decide_eq_true c2
      have : b = true := by rw [hb]; simp [c1, c2]
      subst this
      clear hb c1 c2
      go_enter Try.func30, Try.ntmps30
      go_wp2
      go_ret
      exact ⟨rfl, rfl⟩
    · have d2 : decide (a ≤ hi) = false := decide_eq_false c2
      have : b = false := by rw [hb]; simp; omega
      subst this
      clear hb c1 c2
      go_enter Try.func30, Try.ntmps30
      go_wp2
      go_ret
      exact ⟨rfl, rfl⟩
  · have d1 : decide (lo ≤ a) = false := decide_eq_false c1
    have : b = false := by rw [hb]; simp; omega
    subst this
    clear hb c1
    go_enter Try.func30, Try.ntmps30
    go_wp2
    go_ret
    exact ⟨rfl, rfl⟩
theorem num_calls (a : Int) (w : World) : Calls Try.prog 28 #[.int .i64 a] w fun e w' => e = .returned (.int .i64 a) ∧ w = w' := by
  go_enter Try.func28, Try.ntmps28
  go_wp2
  go_ret
  exact ⟨rfl, rfl⟩
theorem new_no (lo hi : Int) (w : World) (h : hi < lo) : Calls Try.prog 27 #[.int .i64 lo, .int .i64 hi] w fun e w' => e = .returned (.tuple #[.pointer none, .int .i64 30]) ∧ w = w' := by
  have d : decide (hi < lo) = true := decide_eq_true h
  clear h
  go_enter Try.func27, Try.ntmps27
  go_wp2
  go_ret2
  exact ⟨rfl, rfl⟩
theorem new_yes (lo hi : Int) (w : World) (h : lo ≤ hi) : Calls Try.prog 27 #[.int .i64 lo, .int .i64 hi] w fun e w' => e = .returned (.tuple #[ptr w.heap.size, .int .i64 0]) ∧ w.alloc (.cells #[.int .i64 lo, .int .i64 hi] 89) = w' := by
  have d : decide (hi < lo) = false := decide_eq_false (by omega)
  clear h
  go_enter Try.func27, Try.ntmps27
  go_wp2
  go_ret2
  exact ⟨rfl, rfl⟩
section
attribute [local go_sem] max2_int min2_int max_two min_two
set_option maxHeartbeats 800000 in
theorem near_calls (g : Nat) (lo hi a : Int) (w : World) (h : IsR w g lo hi) :
    Calls Try.prog 38 #[ptr g, .int .i64 a] w fun e w' => e = .returned (.int .i64 (mx lo (mn a hi))) ∧ Drawn0 w w' := by
  have h0 := h.lo
  have h1 := h.hi
  clear h
  by_cases c1 : hi < a
  · have d1 : mn a hi = hi := if_pos c1
    by_cases c2 : lo < hi
    · have d2 : mx lo hi = hi := if_pos c2
      rw [d1, d2]
      clear d1 d2
      go_enter Try.func38, Try.ntmps38
      go_wp2_with fail
      go_quiet (fail)
      go_wp2
      go_ret
      exact ⟨rfl, ⟨⟨_, rfl⟩⟩⟩
    · have d2 : mx lo hi = lo := if_neg c2
      rw [d1, d2]
      clear d1 d2
      go_enter Try.func38, Try.ntmps38
      go_wp2_with fail
      go_quiet (fail)
      go_wp2
      go_ret
      exact ⟨rfl, ⟨⟨_, rfl⟩⟩⟩
  · have d1 : mn a hi = a := if_neg c1
    by_cases c2 : lo < a
    · have d2 : mx lo a = a := if_pos c2
      rw [d1, d2]
      clear d1 d2
      go_enter Try.func38, Try.ntmps38
      go_wp2_with fail
      go_quiet (fail)
      go_wp2
      go_ret
      exact ⟨rfl, ⟨⟨_, rfl⟩⟩⟩
    · have d2 : mx lo a = lo := if_neg c2
      rw [d1, d2]
      clear d1 d2
      go_enter Try.func38, Try.ntmps38
      go_wp2_with fail
      go_quiet (fail)
      go_wp2
      go_ret
      exact ⟨rfl, ⟨⟨_, rfl⟩⟩⟩
end
end Go.Proofs.Ytidofjmflpcglaa.Rng
