import Derived.Test.YtidofjmflpcglaaTotal
namespace Go.Proofs.Ytidofjmflpcglaa.Total
open Go.RowKit Go.Proofs.Ytidofjmflpcglaa.SumPlain Go.Proofs.YtidofjmflpcglaaW.PrintWords
set_option linter.unusedVariables false
set_option linter.unusedSimpArgs false
def up (S : Int) : Int := S / 18446744073709551616
set_option maxHeartbeats 800000 in
theorem rtotal_calls (xs : List Int) (A : Option Addr) (c : Nat) (w : World) (hr : (Kd.int .i64).C w A xs.length xs) (hv : ∀ a, a ∈ xs → I64 a) :
    Calls Try.prog 23 #[.slice A xs.length c] w fun e w' => e = .returned (.tuple #[.int .i64 (fit xs.sum).1, .bool (fit xs.sum).2]) ∧ w = w' := by
  have hn := Kd.C_max hr
  have HR := Lib.hid hr
  have HV := Lib.hid hv
  clear hr hv
  go_enter Try.func23, Try.ntmps23
  go_wp2
  go_loop [4, 5, 6] (fun l h i => ∃ k : Nat, k ≤ xs.length ∧ i = .int .i64 k ∧ h = .int .i64 (up (xs.take k).sum) ∧ l = .int .u64 (lo (xs.take k).sum)) (fun _ _ i => xs.length - (intOf i).toNat)
  case atStart => exact ⟨0, Nat.zero_le _, rfl, rfl, rfl⟩
  case round =>
    obtain ⟨k, hk, rfl, rfl, rfl⟩ := hrel
    by_cases hlt : k < xs.length
    · obtain ⟨ad, rfl, hc⟩ := Kd.at_int HR.out k (by omega) (by omega)
      rw [Int.toNat_natCast] at hc
      have ha : I64 (rd xs k) := by rw [rd_get xs k hlt]; exact HV.out _ (List.getElem_mem hlt)
      have hs := sum_small (xs.take k) (fun a h => HV.out a (List.mem_of_mem_take h)) (by simp; omega)
      have HA := Lib.hid ha
      have HS := Lib.hid hs
      clear ha hs
      go_wp2_with fail
      all_goals
        go_round
        case rel =>
          refine ⟨k + 1, by omega, by go_num, ?_, ?_⟩
          · rw [sum_succ xs k hlt]
            have ha := HA.out
            have hs := HS.out
            clear HA HS HR HV hc
            unfold I64 at ha
            generalize (xs.take k).sum = S at *
            generalize rd xs k = a at *
            congr 1
            simp only [IntKind.wrap_u64, wrap64, up, lo] at *
            omega
          · rw [sum_succ xs k hlt, ← lo_succ]
            congr 1
        case measure => simp [intOf]; omega
    · go_wp2_with fail
      all_goals
        obtain rfl : k = xs.length := by omega
        simp only [List.take_length] at *
        go_ret2
        have hs := sum_small xs HV.out hn
        refine ⟨?_, rfl⟩
        clear HR HV
        generalize xs.sum = S at *
        show Ending.returned (.tuple #[.int .i64 _, .bool _]) = _
        refine Mul.ret2 (?_ : (_, _) = ((fit S).1, (fit S).2))
        show (_, _) = fit S
        first
          | (rw [fit_in (by simp only [up, lo] at *; omega)]; congr 1; simp only [wrap64, up, lo] at *; omega)
          | (rw [fit_out (by simp only [up, lo] at *; omega)])
end Go.Proofs.Ytidofjmflpcglaa.Total
