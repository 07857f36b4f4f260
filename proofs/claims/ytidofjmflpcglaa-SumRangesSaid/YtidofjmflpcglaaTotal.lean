/- Contracts of sum.Total, tillref3.Total, tilllaw3.lend and intact. -/
import Derived.Test.YtidofjmflpcglaaAdd
import Derived.Test.YtidofjmflpcglaaWMore
import Derived.Laws.Externs
import Derived.LoopTactic
import Derived.Deep.QuietTactic
import Derived.BigQuiet
namespace Go.Proofs.Ytidofjmflpcglaa.Total
open Go.RowKit Go.Proofs.Ytidofjmflpcglaa.SumPlain Go.Proofs.YtidofjmflpcglaaW.PrintWords
set_option linter.unusedVariables false
set_option linter.unusedSimpArgs false

theorem add64 (x y : Int) (hx : 0 ≤ x) (hy : 0 ≤ y) (w : World) : (callFunc 43 #[.int .u64 x, .int .u64 y, .int .u64 0]).run Try.prog w =
    .ok (.value (.tuple #[.int .u64 ((x + y) % 18446744073709551616), .int .u64 ((x + y) / 18446744073709551616)])) w := by
  obtain ⟨x, rfl⟩ := Int.eq_ofNat_of_zero_le hx
  obtain ⟨y, rfl⟩ := Int.eq_ofNat_of_zero_le hy
  rw [run_callFunc_extern Try.func43 (by kernel_rfl) (by kernel_rfl) (by kernel_rfl) (e := add64Entry) (by kernel_rfl), run_add64 x y 0 (by omega) (by omega) (by omega) (by omega)]
  simp only [Result.andThen]
  congr 5 <;> omega

def lo (S : Int) : Int := S % 18446744073709551616
def hi (S : Int) : Int := S / 18446744073709551616 % 18446744073709551616
theorem sum_take_succ (xs : List Int) (k : Nat) (h : k < xs.length) : (xs.take (k + 1)).sum = (xs.take k).sum + xs[k] := by
  rw [List.take_succ_eq_append_getElem h, List.sum_append]; simp
theorem rd_get (xs : List Int) (k : Nat) (h : k < xs.length) : rd xs (k : Int) = xs[k] := by
  unfold rd; rw [Int.toNat_natCast, List.getD_eq_getElem?_getD, List.getElem?_eq_getElem h]; rfl
theorem sum_succ (xs : List Int) (k : Nat) (h : k < xs.length) : (xs.take (k + 1)).sum = (xs.take k).sum + rd xs (k : Int) := by
  rw [sum_take_succ xs k h, rd_get xs k h]
theorem hi_succ (S a : Int) (ha : I64 a) : IntKind.u64.wrap (hi S + IntKind.u64.wrap (IntKind.u64.wrap (a / 9223372036854775808) + (lo S + IntKind.u64.wrap a) / 18446744073709551616)) = hi (S + a) := by
  unfold I64 at ha
  simp only [IntKind.wrap_u64]
  unfold hi lo
  have h1 : a / 9223372036854775808 = 0 ∨ a / 9223372036854775808 = -1 := by omega
  rcases h1 with h1 | h1 <;> rw [h1] <;> omega
theorem lo_succ (S a : Int) : (lo S + IntKind.u64.wrap a) % 18446744073709551616 = lo (S + a) := by
  simp only [IntKind.wrap_u64]; unfold lo; omega
theorem sum_bound (xs : List Int) (hv : ∀ a, a ∈ xs → I64 a) : -(xs.length * 9223372036854775808 : Int) ≤ xs.sum ∧ xs.sum ≤ xs.length * 9223372036854775808 := by
  induction xs with
  | nil => simp
  | cons x xs ih =>
    have h1 := ih (fun a ha => hv a (List.mem_cons_of_mem _ ha))
    have h2 := hv x List.mem_cons_self
    unfold I64 at h2
    simp only [List.sum_cons, List.length_cons]
    omega
theorem total_fit (S : Int) (h1 : -85070591730234615865843651857942052864 ≤ S) (h2 : S ≤ 85070591730234615865843651857942052864) :
    fit S = if (hi S != IntKind.u64.wrap (wrap64 (lo S) / 9223372036854775808)) = true then (0, false) else (wrap64 (lo S), true) := by
  by_cases h : -9223372036854775808 ≤ S ∧ S ≤ 9223372036854775807
  · rw [fit_in h, if_neg]
    · congr 1; unfold wrap64 lo; omega
    · simp only [bne_iff_ne, ne_eq, Classical.not_not, IntKind.wrap_u64]
      unfold hi lo wrap64; omega
  · rw [fit_out h, if_pos]
    simp only [bne_iff_ne, ne_eq, IntKind.wrap_u64]
    have hq : wrap64 (lo S) / 9223372036854775808 = 0 ∨ wrap64 (lo S) / 9223372036854775808 = -1 := by unfold wrap64 lo; omega
    rcases hq with hq | hq
    · rw [hq]; revert hq; unfold hi lo wrap64; omega
    · rw [hq]; revert hq; unfold hi lo wrap64; omega
theorem total_no (S : Int) (h1 : -85070591730234615865843651857942052864 ≤ S) (h2 : S ≤ 85070591730234615865843651857942052864) (h : (hi S != IntKind.u64.wrap (wrap64 (lo S) / 9223372036854775808)) = true) : fit S = (0, false) := by
  rw [total_fit S h1 h2, if_pos h]
theorem total_yes (S : Int) (h1 : -85070591730234615865843651857942052864 ≤ S) (h2 : S ≤ 85070591730234615865843651857942052864) (h : (hi S != IntKind.u64.wrap (wrap64 (lo S) / 9223372036854775808)) = false) : fit S = (wrap64 (lo S), true) := by
  rw [total_fit S h1 h2, if_neg (by rw [h]; decide)]
theorem sum_small (xs : List Int) (hv : ∀ a, a ∈ xs → I64 a) (hn : xs.length ≤ 9223372036854775807) : -85070591730234615865843651857942052864 ≤ xs.sum ∧ xs.sum ≤ 85070591730234615865843651857942052864 := by
  have := sum_bound xs hv; omega

set_option maxHeartbeats 800000 in
theorem total_calls (xs : List Int) (A : Option Addr) (c : Nat) (w : World) (hr : (Kd.int .i64).C w A xs.length xs) (hv : ∀ a, a ∈ xs → I64 a) :
    Calls Try.prog 22 #[.slice A xs.length c] w fun e w' => e = .returned (.tuple #[.int .i64 (fit xs.sum).1, .bool (fit xs.sum).2]) ∧ w = w' := by
  have hn := Kd.C_max hr
  have HR := Lib.hid hr
  have HV := Lib.hid hv
  clear hr hv
  go_enter Try.func22, Try.ntmps22
  go_wp2
  go_loop [4, 5, 11] (fun h l i => ∃ k : Nat, k ≤ xs.length ∧ i = .int .i64 k ∧ h = .int .u64 (hi (xs.take k).sum) ∧ l = .int .u64 (lo (xs.take k).sum)) (fun _ _ i => xs.length - (intOf i).toNat)
  case atStart => exact ⟨0, Nat.zero_le _, rfl, rfl, rfl⟩
  case round =>
    obtain ⟨k, hk, rfl, rfl, rfl⟩ := hrel
    by_cases hlt : k < xs.length
    · obtain ⟨ad, rfl, hc⟩ := Kd.at_int HR.out k (by omega) (by omega)
      rw [Int.toNat_natCast] at hc
      have hadd := add64 (lo (xs.take k).sum) (IntKind.u64.wrap (rd xs k)) (by unfold lo; omega) (by rw [IntKind.wrap_u64]; omega)
      go_wp2_with fail
      go_round
      case rel =>
        have ha : I64 (rd xs k) := by rw [rd_get xs k hlt]; exact HV.out _ (List.getElem_mem hlt)
        exact ⟨k + 1, by omega, by go_num, by rw [sum_succ xs k hlt, hi_succ _ _ ha], by rw [sum_succ xs k hlt, lo_succ]⟩
      case measure => simp [intOf]; omega
    · go_wp2_with fail
      all_goals obtain rfl : k = xs.length := by omega
      · have hc : (hi (xs.take xs.length).sum != IntKind.u64.wrap (wrap64 (lo (xs.take xs.length).sum) / 9223372036854775808)) = true := by assumption
        simp only [List.take_length] at hc
        go_ret2
        have hs := sum_small xs HV.out hn
        exact ⟨by rw [total_no _ hs.1 hs.2 hc]; rfl, rfl⟩
      · have hc : (hi (xs.take xs.length).sum != IntKind.u64.wrap (wrap64 (lo (xs.take xs.length).sum) / 9223372036854775808)) = false := by assumption
        simp only [List.take_length] at hc
        go_ret2
        have hs := sum_small xs HV.out hn
        exact ⟨by rw [total_yes _ hs.1 hs.2 hc]; simp, rfl⟩
end Go.Proofs.Ytidofjmflpcglaa.Total
