/- Contracts of pace.Reset, tilllaw7.into, and the plain arithmetic of a pace. -/
import Derived.Test.YtfmggmpllggbnaaPace
namespace Go.Proofs.Ytfmggmpllggbnaa.Pace
open Go.RowKit
set_option linter.unusedVariables false
set_option linter.unusedSimpArgs false
theorem reset_calls (g : Nat) (cap left gap : Int) (w : World) (h : IsO w g cap left gap) :
    Calls Try.prog 13 #[ptr g] w fun e w' => e = .returned (.tuple #[]) ∧ IsO w' g cap 0 1 ∧ w.grownBy w' (some g) := by
  have hp := h.p
  have c1 : w.cell? ⟨g, 1, none⟩ = some (.int .i64 left) := hp.cell 1
  have c2 : w.cell? ⟨g, 2, none⟩ = some (.int .i64 gap) := hp.cell 2
  have c3 : w.cell? ⟨g, 3, none⟩ = some (nxt g (decide (left ≤ 1))) := hp.cell 3
  have f1 := hp.frozen 1
  have f2 := hp.frozen 2
  have f3 := hp.frozen 3
  have H := Lib.hid h
  clear h hp
  go_enter Try.func13, Try.ntmps13
  go_wp2
  go_end0
  have hh := H.out
  refine ⟨rfl, ⟨((hh.p.set1 0).set2 1).set3 true, hh.c, by have := hh.c; omega, by have := hh.c; omega⟩, only_set (only_set (only_set (only_refl _ _) _ _) _ _) _ _⟩
theorem into_calls (i n : Int) (w : World) (hi : -9223372036854775808 ≤ i ∧ i ≤ 9223372036854775807) (hn : 1 ≤ n ∧ n ≤ 100000) :
    Calls Try.prog 10 #[.int .i64 i, .int .i64 n] w fun e w' => e = .returned (.int .i64 (i % n)) ∧ w = w' := by
  have e1 : wrap64 (Int.tmod i n) = Int.tmod i n := by
    have h1 := Int.tmod_lt_of_pos i (show 0 < n by omega)
    have h2 := Int.lt_tmod_of_pos i (show 0 < n by omega)
    unfold wrap64; omega
  by_cases h0 : 0 ≤ i
  · have e2 : Int.tmod i n = i % n := Int.tmod_eq_emod_of_nonneg h0
    have h3 : 0 ≤ i % n := Int.emod_nonneg _ (by omega)
    obtain ⟨hi0, hi1⟩ := hi
    obtain ⟨hn0, hn1⟩ := hn
    have E := Lib.hid e2
    clear e1 e2
    go_enter Try.func10, Try.ntmps10
    go_wp2
    go_ret
    exact ⟨rfl, rfl⟩
  · have h1 := Int.tmod_lt_of_pos i (show 0 < n by omega)
    have h2 := Int.lt_tmod_of_pos i (show 0 < n by omega)
    have h4 : Int.tmod i n ≤ 0 := by
      have := Int.tmod_nonneg n (show 0 ≤ -i by omega)
      rw [Int.neg_tmod] at this; omega
    have h5 : i % n = if Int.tmod i n < 0 then Int.tmod i n + n else Int.tmod i n := by
      have h6 : i = n * Int.tdiv i n + Int.tmod i n := (Int.mul_tdiv_add_tmod i n).symm
      have h7 : i % n = Int.tmod i n % n := by
        conv => lhs; rw [h6]
        rw [Int.add_comm, Int.add_mul_emod_self_left]
      rw [h7]
      split
      · rw [← Int.add_emod_right, Int.emod_eq_of_lt (by omega) (by omega)]
      · have : Int.tmod i n = 0 := by omega
        rw [this]; simp
    obtain ⟨m, hm⟩ : ∃ m, m = Int.tmod i n := ⟨_, rfl⟩
    rw [← hm] at e1 h1 h2 h4 h5
    have hm' : Int.tmod i n = m := hm.symm
    clear hm
    obtain ⟨hn0, hn1⟩ := hn
    by_cases hneg : m < 0
    · rw [if_pos hneg] at h5
      have d : decide (m < 0) = true := decide_eq_true hneg
      have E := Lib.hid h5
      clear h5 hi
      go_enter Try.func10, Try.ntmps10
      go_wp2
      go_ret
      exact ⟨by rw [E.out]; rfl, rfl⟩
    · rw [if_neg hneg] at h5
      have d : decide (m < 0) = false := decide_eq_false hneg
      have E := Lib.hid h5
      clear h5 hi
      go_enter Try.func10, Try.ntmps10
      go_wp2
      go_ret
      exact ⟨by rw [E.out]; rfl, rfl⟩
end Go.Proofs.Ytfmggmpllggbnaa.Pace
