/- Contracts of sum.Add, Sub, Neg, of the document's Add, Sub, Neg, Mul, and of 'same': each answers 'fit' of the exact number. -/
import Derived.Test.YtidofjmflpcglaaMul
namespace Go.Proofs.Ytidofjmflpcglaa.Mul
open Go.RowKit Go.Proofs.Ytidofjmflpcglaa.SumPlain
set_option linter.unusedVariables false
set_option linter.unusedSimpArgs false

theorem add_calls (a b : Int) (ha : I64 a) (hb : I64 b) (w : World) :
    Calls Try.prog 26 #[.int .i64 a, .int .i64 b] w fun e w' => e = .returned (.tuple #[.int .i64 (fit (a + b)).1, .bool (fit (a + b)).2]) ∧ w = w' := by
  have he := add_eq a b ha hb
  by_cases hc : Go.bits .and .i64 (Go.bits .xor .i64 a (wrap64 (a + b))) (Go.bits .xor .i64 b (wrap64 (a + b))) < 0
  · rw [if_pos hc] at he
    have hc' : decide (Go.bits .and .i64 (Go.bits .xor .i64 a (wrap64 (a + b))) (Go.bits .xor .i64 b (wrap64 (a + b))) < 0) = true := decide_eq_true hc
    rw [← Option.some.inj he]
    clear he hc
    go_enter Try.func26, Try.ntmps26
    go_wp2
    go_ret2
    exact ⟨rfl, rfl⟩
  · rw [if_neg hc] at he
    have hc' : decide (Go.bits .and .i64 (Go.bits .xor .i64 a (wrap64 (a + b))) (Go.bits .xor .i64 b (wrap64 (a + b))) < 0) = false := decide_eq_false hc
    rw [← Option.some.inj he]
    clear he hc
    go_enter Try.func26, Try.ntmps26
    go_wp2
    go_ret2
    exact ⟨rfl, rfl⟩
theorem sub_calls (a b : Int) (ha : I64 a) (hb : I64 b) (w : World) :
    Calls Try.prog 32 #[.int .i64 a, .int .i64 b] w fun e w' => e = .returned (.tuple #[.int .i64 (fit (a - b)).1, .bool (fit (a - b)).2]) ∧ w = w' := by
  have he := sub_eq a b ha hb
  by_cases hc : Go.bits .and .i64 (Go.bits .xor .i64 a b) (Go.bits .xor .i64 a (wrap64 (a - b))) < 0
  · rw [if_pos hc] at he
    have hc' : decide (Go.bits .and .i64 (Go.bits .xor .i64 a b) (Go.bits .xor .i64 a (wrap64 (a - b))) < 0) = true := decide_eq_true hc
    rw [← Option.some.inj he]
    clear he hc
    go_enter Try.func32, Try.ntmps32
    go_wp2
    go_ret2
    exact ⟨rfl, rfl⟩
  · rw [if_neg hc] at he
    have hc' : decide (Go.bits .and .i64 (Go.bits .xor .i64 a b) (Go.bits .xor .i64 a (wrap64 (a - b))) < 0) = false := decide_eq_false hc
    rw [← Option.some.inj he]
    clear he hc
    go_enter Try.func32, Try.ntmps32
    go_wp2
    go_ret2
    exact ⟨rfl, rfl⟩
theorem neg_calls (a : Int) (ha : I64 a) (w : World) :
    Calls Try.prog 34 #[.int .i64 a] w fun e w' => e = .returned (.tuple #[.int .i64 (fit (-a)).1, .bool (fit (-a)).2]) ∧ w = w' := by
  have h0 : I64 0 := by unfold I64; omega
  go_enter Try.func34, Try.ntmps34
  go_wp2_with fail
  have hc := sub_calls 0 a h0 ha
  rw [Int.zero_sub] at hc
  refine (hc _).mono ?_; rintro e w' ⟨rfl, rfl⟩
  clear hc
  go_wp2
  go_ret2
  exact ⟨rfl, rfl⟩

theorem radd_calls (a b : Int) (ha : I64 a) (hb : I64 b) (w : World) :
    Calls Try.prog 31 #[.int .i64 a, .int .i64 b] w fun e w' => e = .returned (.tuple #[.int .i64 (fit (a + b)).1, .bool (fit (a + b)).2]) ∧ w = w' := by
  have he := radd_eq a b ha hb
  by_cases h1 : b > 0
  · have h1' : decide (0 < b) = true := decide_eq_true h1
    have h1'' : decide (b < 0) = false := decide_eq_false (by omega)
    rw [if_pos h1] at he
    by_cases h2 : a > wrap64 (9223372036854775807 - b)
    · have h2' : decide (wrap64 (9223372036854775807 - b) < a) = true := decide_eq_true h2
      rw [if_pos h2] at he
      rw [← Option.some.inj he]
      clear he h1 h2 ha hb
      go_enter Try.func31, Try.ntmps31
      go_wp2
      go_ret2
      exact ⟨rfl, rfl⟩
    · have h2' : decide (wrap64 (9223372036854775807 - b) < a) = false := decide_eq_false h2
      rw [if_neg h2, if_neg (by omega)] at he
      rw [← Option.some.inj he]
      clear he h1 h2 ha hb
      go_enter Try.func31, Try.ntmps31
      go_wp2
      go_ret2
      exact ⟨rfl, rfl⟩
  · have h1' : decide (0 < b) = false := decide_eq_false h1
    rw [if_neg h1] at he
    by_cases h3 : b < 0
    · have h3' : decide (b < 0) = true := decide_eq_true h3
      rw [if_pos h3] at he
      by_cases h2 : a < wrap64 (-9223372036854775808 - b)
      · have h2' : decide (a < wrap64 (-9223372036854775808 - b)) = true := decide_eq_true h2
        rw [if_pos h2] at he
        rw [← Option.some.inj he]
        clear he h1 h2 h3 ha hb
        go_enter Try.func31, Try.ntmps31
        go_wp2
        go_ret2
        exact ⟨rfl, rfl⟩
      · have h2' : decide (a < wrap64 (-9223372036854775808 - b)) = false := decide_eq_false h2
        rw [if_neg h2] at he
        rw [← Option.some.inj he]
        clear he h1 h2 h3 ha hb
        go_enter Try.func31, Try.ntmps31
        go_wp2
        go_ret2
        exact ⟨rfl, rfl⟩
    · have h3' : decide (b < 0) = false := decide_eq_false h3
      rw [if_neg h3] at he
      rw [← Option.some.inj he]
      clear he h1 h3 ha hb
      go_enter Try.func31, Try.ntmps31
      go_wp2
      go_ret2
      exact ⟨rfl, rfl⟩
theorem rsub_calls (a b : Int) (ha : I64 a) (hb : I64 b) (w : World) :
    Calls Try.prog 33 #[.int .i64 a, .int .i64 b] w fun e w' => e = .returned (.tuple #[.int .i64 (fit (a - b)).1, .bool (fit (a - b)).2]) ∧ w = w' := by
  have he := rsub_eq a b ha hb
  by_cases h1 : b < 0
  · have h1' : decide (b < 0) = true := decide_eq_true h1
    have h1'' : decide (0 < b) = false := decide_eq_false (by omega)
    rw [if_pos h1] at he
    by_cases h2 : a > wrap64 (9223372036854775807 + b)
    · have h2' : decide (wrap64 (9223372036854775807 + b) < a) = true := decide_eq_true h2
      rw [if_pos h2] at he
      rw [← Option.some.inj he]
      clear he h1 h2 ha hb
      go_enter Try.func33, Try.ntmps33
      go_wp2
      go_ret2
      exact ⟨rfl, rfl⟩
    · have h2' : decide (wrap64 (9223372036854775807 + b) < a) = false := decide_eq_false h2
      rw [if_neg h2, if_neg (by omega)] at he
      rw [← Option.some.inj he]
      clear he h1 h2 ha hb
      go_enter Try.func33, Try.ntmps33
      go_wp2
      go_ret2
      exact ⟨rfl, rfl⟩
  · have h1' : decide (b < 0) = false := decide_eq_false h1
    rw [if_neg h1] at he
    by_cases h3 : b > 0
    · have h3' : decide (0 < b) = true := decide_eq_true h3
      rw [if_pos h3] at he
      by_cases h2 : a < wrap64 (-9223372036854775808 + b)
      · have h2' : decide (a < wrap64 (-9223372036854775808 + b)) = true := decide_eq_true h2
        rw [if_pos h2] at he
        rw [← Option.some.inj he]
        clear he h1 h2 h3 ha hb
        go_enter Try.func33, Try.ntmps33
        go_wp2
        go_ret2
        exact ⟨rfl, rfl⟩
      · have h2' : decide (a < wrap64 (-9223372036854775808 + b)) = false := decide_eq_false h2
        rw [if_neg h2] at he
        rw [← Option.some.inj he]
        clear he h1 h2 h3 ha hb
        go_enter Try.func33, Try.ntmps33
        go_wp2
        go_ret2
        exact ⟨rfl, rfl⟩
    · have h3' : decide (0 < b) = false := decide_eq_false h3
      rw [if_neg h3] at he
      rw [← Option.some.inj he]
      clear he h1 h3 ha hb
      go_enter Try.func33, Try.ntmps33
      go_wp2
      go_ret2
      exact ⟨rfl, rfl⟩
theorem rneg_calls (a : Int) (ha : I64 a) (w : World) :
    Calls Try.prog 35 #[.int .i64 a] w fun e w' => e = .returned (.tuple #[.int .i64 (fit (-a)).1, .bool (fit (-a)).2]) ∧ w = w' := by
  have h0 : I64 0 := by unfold I64; omega
  go_enter Try.func35, Try.ntmps35
  go_wp2_with fail
  have hc := rsub_calls 0 a h0 ha
  rw [Int.zero_sub] at hc
  refine (hc _).mono ?_; rintro e w' ⟨rfl, rfl⟩
  clear hc
  go_wp2
  go_ret2
  exact ⟨rfl, rfl⟩
theorem rmul_calls (a b : Int) (ha : I64 a) (hb : I64 b) (w : World) :
    Calls Try.prog 37 #[.int .i64 a, .int .i64 b] w fun e w' => e = .returned (.tuple #[.int .i64 (fit (a * b)).1, .bool (fit (a * b)).2]) ∧ w = w' := by
  have he := rmul_eq a b ha hb
  by_cases h1 : a = 0
  · have h1' : (a == 0) = true := by simpa using h1
    subst h1
    rw [if_pos rfl, if_pos rfl] at he
    rw [← Option.some.inj he]
    clear he ha hb h1'
    go_enter Try.func37, Try.ntmps37
    go_wp2
    go_ret2
    exact ⟨rfl, rfl⟩
  have h1' : (a == 0) = false := by simpa using h1
  rw [if_neg h1] at he
  by_cases h2 : b = 0
  · subst h2
    rw [if_pos rfl] at he
    rw [← Option.some.inj he]
    clear he ha hb h1
    go_enter Try.func37, Try.ntmps37
    go_wp2
    go_ret2
    exact ⟨rfl, rfl⟩
  have h2' : (b == 0) = false := by simpa using h2
  rw [if_neg (by simpa using h2)] at he
  by_cases h3 : a = -1
  · subst h3
    rw [if_pos rfl] at he
    rw [← Option.some.inj he, Int.zero_sub]
    clear he h1 h2
    go_enter Try.func37, Try.ntmps37
    go_wp2_with fail
    refine (rneg_calls b hb _).mono ?_; rintro e w' ⟨rfl, rfl⟩
    go_wp2
    go_ret2
    exact ⟨rfl, rfl⟩
  have h3' : (a == -1) = false := by simpa using h3
  rw [if_neg h3] at he
  by_cases h4 : b = -1
  · subst h4
    rw [if_pos rfl] at he
    rw [← Option.some.inj he, Int.zero_sub]
    clear he h1 h2 h3
    go_enter Try.func37, Try.ntmps37
    go_wp2_with fail
    refine (rneg_calls a ha _).mono ?_; rintro e w' ⟨rfl, rfl⟩
    go_wp2
    go_ret2
    exact ⟨rfl, rfl⟩
  have h4' : (b == -1) = false := by simpa using h4
  rw [if_neg h4, if_neg h2] at he
  by_cases h5 : wrap64 (Int.tdiv (wrap64 (a * b)) b) = a
  · have h5' : (wrap64 (Int.tdiv (wrap64 (a * b)) b) != a) = false := by simpa using h5
    have h5'' : (wrap64 (Int.tdiv (wrap64 (a * b)) b) == a) = true := by simpa using h5
    rw [if_pos h5] at he
    rw [← Option.some.inj he]
    clear he h1 h3 h4 h5 ha hb
    go_enter Try.func37, Try.ntmps37
    go_wp2

    go_ret2
    exact ⟨rfl, rfl⟩
  · have h5' : (wrap64 (Int.tdiv (wrap64 (a * b)) b) != a) = true := by simpa using h5
    have h5'' : (wrap64 (Int.tdiv (wrap64 (a * b)) b) == a) = false := by simpa using h5
    rw [if_neg h5] at he
    rw [← Option.some.inj he]
    clear he h1 h3 h4 h5 ha hb
    go_enter Try.func37, Try.ntmps37
    go_wp2

    go_ret2
    exact ⟨rfl, rfl⟩
theorem same_calls (a : Int) (x : Bool) (w : World) : Calls Try.prog 24 #[.int .i64 a, .bool x, .int .i64 a, .bool x] w fun e w' => e = .returned (.bool true) ∧ w = w' := by
  cases x
  all_goals
    go_enter Try.func24, Try.ntmps24
    go_wp2
    go_ret
    exact ⟨rfl, rfl⟩
end Go.Proofs.Ytidofjmflpcglaa.Mul
