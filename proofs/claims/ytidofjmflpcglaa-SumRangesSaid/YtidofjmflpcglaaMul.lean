/- Contracts of sum.Mul and tillref3.Mul, and of what they call: each answers 'fit' of the exact product. -/
import Derived.Test.YtidofjmflpcglaaProg
import Derived.Test.YtidofjmflpcglaaSumPlain
import Derived.WalkKit
import Derived.WalkSpells
import Derived.WalkLawsBesides
import Derived.Below
import Derived.Outline
import Derived.Lib.Hide
namespace Go.Proofs.Ytidofjmflpcglaa.Mul
open Go.RowKit Go.Proofs.Ytidofjmflpcglaa.SumPlain
set_option linter.unusedVariables false
set_option linter.unusedSimpArgs false

theorem ret2 {k : IntKind} {a b : Int} {x y : Bool} (h : (a, x) = (b, y)) : Ending.returned (.tuple #[.int k a, .bool x]) = .returned (.tuple #[.int k b, .bool y]) := by
  injection h with h1 h2; rw [h1, h2]

theorem amount_calls (a : Int) (ha : I64 a) (w : World) : Calls Try.prog 17 #[.int .i64 a] w fun e w' => e = .returned (.int .u64 (mag a)) ∧ w = w' := by
  have he := amount_eq a ha
  by_cases h : a < 0
  · rw [if_pos h] at he
    have hb : decide (a < 0) = true := decide_eq_true h
    have hm := Lib.hid (Option.some.inj he)
    clear he h
    go_enter Try.func17, Try.ntmps17
    go_wp2
    go_ret
    exact ⟨by rw [← hm.out]; rfl, rfl⟩
  · rw [if_neg h] at he
    have hb : decide (a < 0) = false := decide_eq_false h
    have hm := Lib.hid (Option.some.inj he)
    clear he h
    go_enter Try.func17, Try.ntmps17
    go_wp2
    go_ret
    exact ⟨by rw [← hm.out]; rfl, rfl⟩

theorem mul64_calls (x y : Int) (hx : 0 ≤ x ∧ x < 18446744073709551616) (hy : 0 ≤ y ∧ y < 18446744073709551616) (w : World) :
    Calls Try.prog 48 #[.int .u64 x, .int .u64 y] w fun e w' => e = .returned (.tuple #[.int .u64 (x * y / 18446744073709551616), .int .u64 (x * y % 18446744073709551616)]) ∧ w = w' := by
  have he := mul64_eq x y hx hy
  have h1 := Lib.hid (Prod.mk.inj (Option.some.inj he)).1
  have h2 := Lib.hid (Prod.mk.inj (Option.some.inj he)).2
  clear he
  obtain ⟨hx0, hx1⟩ := hx
  obtain ⟨hy0, hy1⟩ := hy
  clear hx1 hy1
  go_enter Try.func48, Try.ntmps48
  go_wp2
  go_ret2
  exact ⟨by rw [← h1.out, ← h2.out]; rfl, rfl⟩

/-- What Mul answers of the two words and the sign. -/
def mulOf (neg : Bool) (hi lo : Int) : Int × Bool :=
  if hi = 0 then (if neg = true then (if lo ≤ 9223372036854775808 then (wrap64 (IntKind.u64.wrap (-lo)), true) else (0, false)) else (if lo < 9223372036854775808 then (wrap64 lo, true) else (0, false))) else (0, false)
theorem mulOf_eq (a b : Int) (ha : I64 a) (hb : I64 b) : mulOf (decide (a < 0) != decide (b < 0)) (mag a * mag b / 18446744073709551616) (mag a * mag b % 18446744073709551616) = fit (a * b) := by
  have h := mul_eq a b ha hb
  unfold mulOf
  generalize (decide (a < 0) != decide (b < 0)) = neg at *
  generalize mag a * mag b / 18446744073709551616 = hi at *
  generalize mag a * mag b % 18446744073709551616 = lo at *
  by_cases h1 : hi = 0
  · rw [if_pos h1] at h ⊢
    cases neg with
    | true =>
      simp only [if_true] at h ⊢
      by_cases h2 : lo ≤ 9223372036854775808
      · rw [if_pos (by simpa using h2)] at h; rw [if_pos h2]; exact Option.some.inj h
      · rw [if_neg (by simpa using h2)] at h; rw [if_neg h2]; exact Option.some.inj h
    | false =>
      rw [if_neg (by decide), if_neg (by decide), if_neg (by decide)] at h
      rw [if_neg (by decide)]
      by_cases h2 : lo < 9223372036854775808
      · rw [if_pos h2] at h ⊢; exact Option.some.inj h
      · rw [if_neg h2] at h ⊢; exact Option.some.inj h
  · rw [if_neg h1] at h ⊢
    exact Option.some.inj h

set_option maxHeartbeats 800000 in
theorem mul_calls (a b : Int) (ha : I64 a) (hb : I64 b) (w : World) :
    Calls Try.prog 36 #[.int .i64 a, .int .i64 b] w fun e w' => e = .returned (.tuple #[.int .i64 (fit (a * b)).1, .bool (fit (a * b)).2]) ∧ w = w' := by
  have he := mulOf_eq a b ha hb
  have hma := mag_range a ha
  have hmb := mag_range b hb
  have c1 := fun w => amount_calls a ha w
  have c2 := fun w => amount_calls b hb w
  have c3 := fun w => mul64_calls (mag a) (mag b) hma hmb w
  have hlo : 0 ≤ mag a * mag b % 18446744073709551616 ∧ mag a * mag b % 18446744073709551616 < 18446744073709551616 := ⟨Int.emod_nonneg _ (by omega), Int.emod_lt_of_pos _ (by omega)⟩
  rw [← he]
  clear he
  have C1 := Lib.hid c1; have C2 := Lib.hid c2; have C3 := Lib.hid c3
  clear c1 c2 c3 hma hmb
  generalize mag a = ma at *
  generalize mag b = mb at *
  generalize ma * mb / 18446744073709551616 = hi at *
  generalize ma * mb % 18446744073709551616 = lo at *
  obtain ⟨hl0, hl1⟩ := hlo
  have main : ∀ (sa sb : Bool), decide (a < 0) = sa → decide (b < 0) = sb → Calls Try.prog 36 #[.int .i64 a, .int .i64 b] w fun e w' => e = .returned (.tuple #[.int .i64 (mulOf (sa != sb) hi lo).1, .bool (mulOf (sa != sb) hi lo).2]) ∧ w = w' := by
    intro sa sb hsa hsb
    by_cases h1 : hi = 0
    · subst h1
      by_cases h2 : lo < 9223372036854775808
      · have h2' : lo ≤ 9223372036854775808 := by omega
        cases sa <;> cases sb
        all_goals
          go_enter Try.func36, Try.ntmps36
          go_wp2_with fail
          refine (C1.out _).mono ?_; rintro e w' ⟨rfl, rfl⟩
          go_wp2_with fail
          refine (C2.out _).mono ?_; rintro e w' ⟨rfl, rfl⟩
          go_wp2_with fail
          refine (C3.out _).mono ?_; rintro e w' ⟨rfl, rfl⟩
          go_wp2
          go_ret2
          exact ⟨by have hw : wrap64 lo = lo := wrap64_in (by omega)
                    simp [mulOf, h2, h2', hw], rfl⟩
      · by_cases h3 : lo ≤ 9223372036854775808
        · cases sa <;> cases sb
          all_goals
            go_enter Try.func36, Try.ntmps36
            go_wp2_with fail
            refine (C1.out _).mono ?_; rintro e w' ⟨rfl, rfl⟩
            go_wp2_with fail
            refine (C2.out _).mono ?_; rintro e w' ⟨rfl, rfl⟩
            go_wp2_with fail
            refine (C3.out _).mono ?_; rintro e w' ⟨rfl, rfl⟩
            go_wp2
            go_ret2
            exact ⟨by have hh : ¬ lo < 9223372036854775808 := by omega
                      first | (have hg : ¬ lo ≤ 9223372036854775808 := by omega
                               simp [mulOf, hh, hg]) | (have hg : lo ≤ 9223372036854775808 := by omega
                                                        simp [mulOf, hh, hg]), rfl⟩
        · cases sa <;> cases sb
          all_goals
            go_enter Try.func36, Try.ntmps36
            go_wp2_with fail
            refine (C1.out _).mono ?_; rintro e w' ⟨rfl, rfl⟩
            go_wp2_with fail
            refine (C2.out _).mono ?_; rintro e w' ⟨rfl, rfl⟩
            go_wp2_with fail
            refine (C3.out _).mono ?_; rintro e w' ⟨rfl, rfl⟩
            go_wp2
            go_ret2
            exact ⟨by have hh : ¬ lo < 9223372036854775808 := by omega
                      first | (have hg : ¬ lo ≤ 9223372036854775808 := by omega
                               simp [mulOf, hh, hg]) | (have hg : lo ≤ 9223372036854775808 := by omega
                                                        simp [mulOf, hh, hg]), rfl⟩
    · have h1b : (hi != 0) = true := by rw [bne_iff_ne]; exact h1
      have h1c : (hi == 0) = false := by simpa using h1
      cases sa <;> cases sb
      all_goals
        go_enter Try.func36, Try.ntmps36
        go_wp2_with fail
        refine (C1.out _).mono ?_; rintro e w' ⟨rfl, rfl⟩
        go_wp2_with fail
        refine (C2.out _).mono ?_; rintro e w' ⟨rfl, rfl⟩
        go_wp2_with fail
        refine (C3.out _).mono ?_; rintro e w' ⟨rfl, rfl⟩
        go_wp2
        go_ret2
        exact ⟨by simp [mulOf, h1], rfl⟩
  exact main _ _ rfl rfl
end Go.Proofs.Ytidofjmflpcglaa.Mul
