/- Proved: every limit of package api has the number that stands beside its name (a closed statement). No condition. -/
import Derived.Test.YtidofjmflpcglaaPApiLimitsx1
namespace Go.Proofs.Ytidofjmflpcglaa.Pure
open Go.RowKit Go.Proofs.Ytidofjmflpcglaa.PApiLimits Go.Proofs.YtidofjmflpcglaaW.PrintWords Go.Proofs.YtidofjmflpcglaaW.PrintLast

/-- YOURS: ∃ k, tilllaw0_ApiLimits.f k  = some true
What it reaches (each with k first where it has rounds; `.mono`: more rounds tell the same; `.l0`, ..: its loops, with `.mono_l`): tilllaw0_same.f, tilllaw0_ApiLimits.f -/
theorem ApiLimits : tilllaw0_ApiLimits.Pure := by
  refine ⟨300, ?_⟩
  decide +kernel

end Go.Proofs.Ytidofjmflpcglaa.Pure
