/- Proved: for every pair of int64 numbers, sum.Add and sum.Mul don't hang on the order, a difference takes a told sum back, a product with -1 is the opposite. No condition. -/
import Derived.Test.YtidofjmflpcglaaAdd
import Derived.Test.YtidofjmflpcglaaRows
import Derived.ProofKit
import Derived.Lib.SmallJoins
import Derived.SizedLaws
namespace Go.Proofs.Ytidofjmflpcglaa.SumLaws
open Go.ChangeShapes Go.WideShapes Go.ChangeAt Go.RowKit Go.Joins
open Go.Proofs.Ytidofjmflpcglaa.SumPlain Go.Proofs.Ytidofjmflpcglaa.Mul
set_option linter.unusedVariables false
set_option linter.unusedSimpArgs false

theorem fit_fst {n : Int} (h : -9223372036854775808 ≤ n ∧ n ≤ 9223372036854775807) : (fit n).1 = n := by rw [fit_in h]
theorem fit_snd {n : Int} (h : -9223372036854775808 ≤ n ∧ n ≤ 9223372036854775807) : (fit n).2 = true := by rw [fit_in h]
theorem add_yes (a b : Int) (ha : I64 a) (hb : I64 b) (h : I64 (a + b)) (w : World) : Calls Try.prog 26 #[.int .i64 a, .int .i64 b] w fun e w' => e = .returned (.tuple #[.int .i64 (a + b), .bool true]) ∧ w = w' := by
  have := add_calls a b ha hb w; rwa [fit_in h] at this
theorem add_no (a b : Int) (ha : I64 a) (hb : I64 b) (h : ¬ I64 (a + b)) (w : World) : Calls Try.prog 26 #[.int .i64 a, .int .i64 b] w fun e w' => e = .returned (.tuple #[.int .i64 0, .bool false]) ∧ w = w' := by
  have := add_calls a b ha hb w; rwa [fit_out h] at this
theorem sub_yes (a b : Int) (ha : I64 a) (hb : I64 b) (h : I64 (a - b)) (w : World) : Calls Try.prog 32 #[.int .i64 a, .int .i64 b] w fun e w' => e = .returned (.tuple #[.int .i64 (a - b), .bool true]) ∧ w = w' := by
  have := sub_calls a b ha hb w; rwa [fit_in h] at this
theorem mul_yes (a b : Int) (ha : I64 a) (hb : I64 b) (h : I64 (a * b)) (w : World) : Calls Try.prog 36 #[.int .i64 a, .int .i64 b] w fun e w' => e = .returned (.tuple #[.int .i64 (a * b), .bool true]) ∧ w = w' := by
  have := mul_calls a b ha hb w; rwa [fit_in h] at this
theorem c2 : I64 2 := by unfold I64; omega
theorem c3 : I64 3 := by unfold I64; omega
theorem cm : I64 (-1) := by unfold I64; omega

set_option maxHeartbeats 1600000 in
set_option maxRecDepth 100000 in
theorem walk_yes (a b : Int) (ha : I64 a) (hb : I64 b) (hs : I64 (a + b)) (w : World) :
    Calls Try.prog 12 #[.agg #[.int .i64 a, .int .i64 b]] w fun e w' => e = .returned (.bool true) ∧ Below w.heap.size w w' := by
  have C26 := Lib.hid (add_yes a b ha hb hs)
  have C26' : Hid (∀ w, Calls Try.prog 26 #[.int .i64 b, .int .i64 a] w fun e w' => e = .returned (.tuple #[.int .i64 (a + b), .bool true]) ∧ w = w') := by
    have := add_yes b a hb ha (by rwa [Int.add_comm]); rw [Int.add_comm b a] at this; exact this
  have C36 := Lib.hid (mul_calls a b ha hb)
  have C36' : Hid (∀ w, Calls Try.prog 36 #[.int .i64 b, .int .i64 a] w fun e w' => e = .returned (.tuple #[.int .i64 (fit (a * b)).1, .bool (fit (a * b)).2]) ∧ w = w') := by
    have := mul_calls b a hb ha; rw [Int.mul_comm b a] at this; exact this
  have C32 : Hid (∀ w, Calls Try.prog 32 #[.int .i64 (a + b), .int .i64 b] w fun e w' => e = .returned (.tuple #[.int .i64 a, .bool true]) ∧ w = w') := by
    have e : a + b - b = a := by omega
    have := sub_yes (a + b) b hs hb (by rwa [e]); rw [e] at this; exact this
  have C36m : Hid (∀ w, Calls Try.prog 36 #[.int .i64 a, .int .i64 (-1)] w fun e w' => e = .returned (.tuple #[.int .i64 (fit (-a)).1, .bool (fit (-a)).2]) ∧ w = w') := by
    have e : a * -1 = -a := by omega
    have := mul_calls a (-1) ha cm; rw [e] at this; exact this
  have C34 := Lib.hid (neg_calls a ha)
  have C26c := Lib.hid (add_yes 2 3 c2 c3 (by unfold I64; omega))
  have C36c := Lib.hid (mul_yes 2 3 c2 c3 (by unfold I64; omega))
  have HB : Hid (Below w.heap.size w (w.alloc (.cells #[.int .i64 a, .int .i64 b] 42))) := (Below.refl _ _).alloc (Nat.le_refl _) _
  clear ha hb hs
  go_enter Try.func12, Try.ntmps12
  go_wp2_with fail
  refine (C26.out _).mono ?_; rintro e w' ⟨rfl, rfl⟩
  go_wp2_with fail
  refine (C26'.out _).mono ?_; rintro e w' ⟨rfl, rfl⟩
  go_wp2_with fail
  refine (C36.out _).mono ?_; rintro e w' ⟨rfl, rfl⟩
  go_wp2_with fail
  refine (C36'.out _).mono ?_; rintro e w' ⟨rfl, rfl⟩
  go_wp2_with fail
  refine (same_calls _ _ _).mono ?_; rintro e w' ⟨rfl, rfl⟩
  go_wp2_with fail
  refine (same_calls _ _ _).mono ?_; rintro e w' ⟨rfl, rfl⟩
  go_wp2_with fail
  refine (C32.out _).mono ?_; rintro e w' ⟨rfl, rfl⟩
  go_wp2_with fail
  refine (C36m.out _).mono ?_; rintro e w' ⟨rfl, rfl⟩
  go_wp2_with fail
  refine (C34.out _).mono ?_; rintro e w' ⟨rfl, rfl⟩
  go_wp2_with fail
  refine (same_calls _ _ _).mono ?_; rintro e w' ⟨rfl, rfl⟩
  go_wp2_with fail
  refine (C26c.out _).mono ?_; rintro e w' ⟨rfl, rfl⟩
  go_wp2_with fail
  refine (C36c.out _).mono ?_; rintro e w' ⟨rfl, rfl⟩
  go_wp2
  go_ret
  exact ⟨rfl, HB.out⟩
set_option maxHeartbeats 1600000 in
set_option maxRecDepth 100000 in
theorem walk_no (a b : Int) (ha : I64 a) (hb : I64 b) (hs : ¬ I64 (a + b)) (w : World) :
    Calls Try.prog 12 #[.agg #[.int .i64 a, .int .i64 b]] w fun e w' => e = .returned (.bool true) ∧ Below w.heap.size w w' := by
  have C26 := Lib.hid (add_no a b ha hb hs)
  have C26' := Lib.hid (add_no b a hb ha (by rwa [Int.add_comm]))
  have C36 := Lib.hid (mul_calls a b ha hb)
  have C36' : Hid (∀ w, Calls Try.prog 36 #[.int .i64 b, .int .i64 a] w fun e w' => e = .returned (.tuple #[.int .i64 (fit (a * b)).1, .bool (fit (a * b)).2]) ∧ w = w') := by
    have := mul_calls b a hb ha; rw [Int.mul_comm b a] at this; exact this
  have C36m : Hid (∀ w, Calls Try.prog 36 #[.int .i64 a, .int .i64 (-1)] w fun e w' => e = .returned (.tuple #[.int .i64 (fit (-a)).1, .bool (fit (-a)).2]) ∧ w = w') := by
    have e : a * -1 = -a := by omega
    have := mul_calls a (-1) ha cm; rw [e] at this; exact this
  have C34 := Lib.hid (neg_calls a ha)
  have C26c := Lib.hid (add_yes 2 3 c2 c3 (by unfold I64; omega))
  have C36c := Lib.hid (mul_yes 2 3 c2 c3 (by unfold I64; omega))
  have HB : Hid (Below w.heap.size w (w.alloc (.cells #[.int .i64 a, .int .i64 b] 42))) := (Below.refl _ _).alloc (Nat.le_refl _) _
  clear ha hb hs
  go_enter Try.func12, Try.ntmps12
  go_wp2_with fail
  refine (C26.out _).mono ?_; rintro e w' ⟨rfl, rfl⟩
  go_wp2_with fail
  refine (C26'.out _).mono ?_; rintro e w' ⟨rfl, rfl⟩
  go_wp2_with fail
  refine (C36.out _).mono ?_; rintro e w' ⟨rfl, rfl⟩
  go_wp2_with fail
  refine (C36'.out _).mono ?_; rintro e w' ⟨rfl, rfl⟩
  go_wp2_with fail
  refine (same_calls _ _ _).mono ?_; rintro e w' ⟨rfl, rfl⟩
  go_wp2_with fail
  refine (same_calls _ _ _).mono ?_; rintro e w' ⟨rfl, rfl⟩
  go_wp2_with fail
  refine (C36m.out _).mono ?_; rintro e w' ⟨rfl, rfl⟩
  go_wp2_with fail
  refine (C34.out _).mono ?_; rintro e w' ⟨rfl, rfl⟩
  go_wp2_with fail
  refine (same_calls _ _ _).mono ?_; rintro e w' ⟨rfl, rfl⟩
  go_wp2_with fail
  refine (C26c.out _).mono ?_; rintro e w' ⟨rfl, rfl⟩
  go_wp2_with fail
  refine (C36c.out _).mono ?_; rintro e w' ⟨rfl, rfl⟩
  go_wp2
  go_ret
  exact ⟨rfl, HB.out⟩

theorem cells42 : Try.prog.cellsOf 42 = 2 := by kernel_rfl
theorem in64 {n : Int} (h : (Lit.int .i64 n).wf = true) : I64 n := by
  simpa [Lit.wf, IntKind.min, IntKind.max, IntKind.signed, IntKind.bits, I64] using h
theorem contract {H : Type} {enc : TypeId × Value → H} (W : World) (base : Nat) (v0 : Value) (d0 : DataW H) (p0 : List MemPlace) (hok : Value.okWide Try.prog W .any base 42 v0)
    (h0 : DataW.Trod enc Try.prog W 0 (fun _ => true) true 42 v0 d0 p0) (_hlt : ∀ x ∈ p0, x.block < W.heap.size) (_hsz : (DataW.weightsEach Try.prog [42] [d0]).all (· ≤ reachBytes) = true) :
    Calls Try.prog 12 #[v0] W fun e W' => e = .returned (.bool true) ∧ Below W.heap.size W W' := by
  obtain ⟨c0, c1, y0, y1, m, rfl, rfl, rfl, hy0, hy1⟩ := open_agg2 Try.underlying42 (by kernel_rfl) cells42 hok h0
  obtain ⟨a, e0, rfl, wa⟩ := DataW.trod_int Try.underlying2 hy0
  obtain ⟨b, e1, rfl, wb⟩ := DataW.trod_int Try.underlying2 hy1
  simp at e0 e1
  subst e0 e1
  by_cases hs : I64 (a + b)
  · exact walk_yes a b (in64 wa) (in64 wb) hs W
  · exact walk_no a b (in64 wa) (in64 wb) hs W
end Go.Proofs.Ytidofjmflpcglaa.SumLaws
