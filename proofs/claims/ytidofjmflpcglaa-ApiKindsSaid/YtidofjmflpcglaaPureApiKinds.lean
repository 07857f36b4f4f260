/- Proved: every kind of package api has the number that stands beside its name (a closed statement). No condition. -/
import Derived.Test.YtidofjmflpcglaaPApiKindsx1
namespace Go.Proofs.Ytidofjmflpcglaa.Pure
open Go.RowKit Go.Proofs.Ytidofjmflpcglaa.PApiKinds Go.Proofs.YtidofjmflpcglaaW.PrintWords Go.Proofs.YtidofjmflpcglaaW.PrintLast

/-- YOURS: ∃ k, tilllaw0_ApiKinds.f k  = some true
What it reaches (each with k first where it has rounds; `.mono`: more rounds tell the same; `.l0`, ..: its loops, with `.mono_l`): tilllaw0_same.f, tilllaw0_ApiKinds.f -/
theorem ApiKinds : tilllaw0_ApiKinds.Pure := by
  refine ⟨300, ?_⟩
  decide +kernel

end Go.Proofs.Ytidofjmflpcglaa.Pure
