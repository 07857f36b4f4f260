/- Proved: every error of package api has the number that stands beside its name (a closed statement). No condition. -/
import Derived.Test.YtidofjmflpcglaaPApiErrorsx1
namespace Go.Proofs.Ytidofjmflpcglaa.Pure
open Go.RowKit Go.Proofs.Ytidofjmflpcglaa.PApiErrors Go.Proofs.YtidofjmflpcglaaW.PrintWords Go.Proofs.YtidofjmflpcglaaW.PrintLast

/-- YOURS: ∃ k, tilllaw0_ApiErrors.f k  = some true
What it reaches (each with k first where it has rounds; `.mono`: more rounds tell the same; `.l0`, ..: its loops, with `.mono_l`): tilllaw0_same.f, tilllaw0_num.f, tilllaw0_errors1.f, tilllaw0_errors2.f, tilllaw0_ApiErrors.f -/
theorem ApiErrors : tilllaw0_ApiErrors.Pure := by
  refine ⟨300, ?_⟩
  decide +kernel

end Go.Proofs.Ytidofjmflpcglaa.Pure
