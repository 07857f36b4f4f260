/- Proved: for every two int64 numbers, sum.Amount and sum.Cut answer what the document says. No condition. -/
import Derived.Test.YtidofjmflpcglaaPSumCutsx1
import Derived.Test.YtidofjmflpcglaaSumPlain
import Derived.Test.YtidofjmflpcglaaRows
import Derived.ProofKit
import Derived.Lib.SmallJoins
import Derived.SizedLaws
namespace Go.Proofs.Ytidofjmflpcglaa.SumCuts
open Go.ChangeShapes Go.WideShapes Go.ChangeAt Go.RowKit Go.Joins
open Go.Proofs.Ytidofjmflpcglaa.SumPlain Go.Proofs.Ytidofjmflpcglaa.PSumCuts Go.Proofs.YtidofjmflpcglaaW.PrintWords Go.Proofs.YtidofjmflpcglaaW.PrintMore
set_option linter.unusedVariables false
set_option linter.unusedSimpArgs false

theorem amount (a : Int) (ha : I64 a) : sum_Amount.f a = some (mag a) := amount_eq a ha
theorem ramount (a : Int) (ha : I64 a) : tillref3_Amount.f a = some (mag a) := by
  unfold I64 at ha
  unfold tillref3_Amount.f mag
  simp only [IntKind.wrap_u64, wrap64]
  split <;> (congr 1; omega)
theorem pure (a b : Int) (ha : I64 a) (hb : I64 b) : tilllaw3_SumCuts.f a b = some true := by
  unfold tilllaw3_SumCuts.f
  rw [amount a ha, ramount a ha, Option.bind_some, Option.bind_some, if_pos rfl]
  unfold sum_Cut.f tillref3_Cut.f
  rw [ramount a ha]
  simp only [Option.bind_some]
  unfold I64 at ha hb
  unfold mag mx mn wrap64
  simp only [IntKind.wrap_u64]
  by_cases h1 : b < 0
  · rw [if_pos h1]
    simp only [Option.bind_some, Option.some.injEq, beq_iff_eq]
    repeat' split
    all_goals omega
  · rw [if_neg h1]
    by_cases h2 : (if a < 0 then -a else a) ≤ b % 18446744073709551616
    · rw [if_pos h2]
      simp only [Option.bind_some, Option.some.injEq, beq_iff_eq]
      split at h2 <;> repeat' split
      all_goals omega
    · rw [if_neg h2]
      by_cases h3 : a < 0
      · rw [if_pos h3]
        simp only [Option.bind_some, Option.some.injEq, beq_iff_eq]
        split at h2 <;> repeat' split
        all_goals omega
      · rw [if_neg h3]
        simp only [Option.bind_some, Option.some.injEq, beq_iff_eq]
        split at h2 <;> repeat' split
        all_goals omega
theorem cells42 : Try.prog.cellsOf 42 = 2 := by kernel_rfl
theorem in64 {n : Int} (h : (Lit.int .i64 n).wf = true) : I64 n := by
  simpa [Lit.wf, IntKind.min, IntKind.max, IntKind.signed, IntKind.bits, I64] using h
theorem contract {H : Type} {enc : TypeId × Value → H} (W : World) (base : Nat) (v0 : Value) (d0 : DataW H) (p0 : List MemPlace) (hok : Value.okWide Try.prog W .any base 42 v0)
    (h0 : DataW.Trod enc Try.prog W 0 (fun _ => true) true 42 v0 d0 p0) (_hlt : ∀ x ∈ p0, x.block < W.heap.size) (_hsz : (DataW.weightsEach Try.prog [42] [d0]).all (· ≤ reachBytes) = true) :
    Calls Try.prog 7 #[v0] W fun e W' => e = .returned (.bool true) ∧ Below W.heap.size W W' := by
  obtain ⟨c0, c1, y0, y1, m, rfl, rfl, rfl, hy0, hy1⟩ := open_agg2 Try.underlying42 (by kernel_rfl) cells42 hok h0
  obtain ⟨a, e0, rfl, wa⟩ := DataW.trod_int Try.underlying2 hy0
  obtain ⟨b, e1, rfl, wb⟩ := DataW.trod_int Try.underlying2 hy1
  simp at e0 e1
  subst e0 e1
  exact tilllaw3_SumCuts.calls a b true W (pure a b (in64 wa) (in64 wb))
end Go.Proofs.Ytidofjmflpcglaa.SumCuts
