/-
  No cell of these rows narrows 'for every input' (looked for: loops, veiled, ifaces, maps, wideKeys, modest, calm, conditions, laid).
  DERIVED. THE GIVEN ROWS OF THIS SEAT. 11 by the template 'for every input the law returns true; each argument reads behind the call as it read before'; 0 by the template 'total and deterministic' (their statements: YtidofjmflpcglaaTotals.lean).
  GIVEN WITH THE SEED: the statements are not yours to turn. If you find one false, say at which input.
  Laid BY PROGRAM, IN A SANDBOX (cutbox-rows.mjs): the forced cells as the released guide's own fill.sh prints them over the translation b24be198272ac32c… (all of the seat's roots in one cut). By AI agents, Wed Nov 11 2026. No macro, syntax, notation, axiom, sorry.
-/
import Derived.Test.YtidofjmflpcglaaChecked
import GoSem.Claim
import GoSem.ClaimJoined
import GoSem.ClaimMapViews
import Derived.JoinedTies
import Derived.KernelRfl
namespace Go.Proofs.Ytidofjmflpcglaa
/- THE CELL 'sum', in the pinned program and in every row, IS THE sha256 OF THE DUMP (.gsa) THAT YtidofjmflpcglaaProg.lean LOADS. Nothing in Lean hashes anything: it is a label: what it is worth is what the hold of that sum in a sandbox is worth. -/
noncomputable def Try.pinned : Pinned := { name := "ytidofjmflpcglaa", sum := "b24be198272ac32cc3610475c81ff210c690bfa52c785f3da66b2e1bd3c2c60a", checked := Try.checked }
namespace Rows
def none {H : Type} : Left H := { results := [], args := [] }

/-- 'tilllaw0.ApiErrors': WHATEVER THE INPUT: true; the input reads as it did. -/
def apiErrorsSpec : ChangeSpec := { name := "apiErrors", fn := fun _ => fun
  | [] => { results := [.lit (.bool true)], args := [] }
  | _ => none }
def apiErrorsRow : OpenClaim := { program := "ytidofjmflpcglaa", sum := "b24be198272ac32cc3610475c81ff210c690bfa52c785f3da66b2e1bd3c2c60a", func := "till/tilllaw0.ApiErrors", spec := "apiErrors", apart := false }
def ApiErrorsSaid : Prop := apiErrorsRow.holds Try.pinned (OpenSpec.ofChange apiErrorsSpec)

/-- ITS FALSE NEIGHBOUR: 'it returns false'. Refute it at one input. -/
def apiErrorsWrong : ChangeSpec := { name := "apiErrors", fn := fun _ => fun
  | [] => { results := [.lit (.bool false)], args := [] }
  | _ => none }
def ApiErrorsWrongFalsely : Prop := apiErrorsRow.holds Try.pinned (OpenSpec.ofChange apiErrorsWrong)

/-- 'tilllaw0.ApiLimits': WHATEVER THE INPUT: true; the input reads as it did. -/
def apiLimitsSpec : ChangeSpec := { name := "apiLimits", fn := fun _ => fun
  | [] => { results := [.lit (.bool true)], args := [] }
  | _ => none }
def apiLimitsRow : OpenClaim := { program := "ytidofjmflpcglaa", sum := "b24be198272ac32cc3610475c81ff210c690bfa52c785f3da66b2e1bd3c2c60a", func := "till/tilllaw0.ApiLimits", spec := "apiLimits", apart := false }
def ApiLimitsSaid : Prop := apiLimitsRow.holds Try.pinned (OpenSpec.ofChange apiLimitsSpec)

/-- ITS FALSE NEIGHBOUR: 'it returns false'. Refute it at one input. -/
def apiLimitsWrong : ChangeSpec := { name := "apiLimits", fn := fun _ => fun
  | [] => { results := [.lit (.bool false)], args := [] }
  | _ => none }
def ApiLimitsWrongFalsely : Prop := apiLimitsRow.holds Try.pinned (OpenSpec.ofChange apiLimitsWrong)

/-- 'tilllaw0.ApiKinds': WHATEVER THE INPUT: true; the input reads as it did. -/
def apiKindsSpec : ChangeSpec := { name := "apiKinds", fn := fun _ => fun
  | [] => { results := [.lit (.bool true)], args := [] }
  | _ => none }
def apiKindsRow : OpenClaim := { program := "ytidofjmflpcglaa", sum := "b24be198272ac32cc3610475c81ff210c690bfa52c785f3da66b2e1bd3c2c60a", func := "till/tilllaw0.ApiKinds", spec := "apiKinds", apart := false }
def ApiKindsSaid : Prop := apiKindsRow.holds Try.pinned (OpenSpec.ofChange apiKindsSpec)

/-- ITS FALSE NEIGHBOUR: 'it returns false'. Refute it at one input. -/
def apiKindsWrong : ChangeSpec := { name := "apiKinds", fn := fun _ => fun
  | [] => { results := [.lit (.bool false)], args := [] }
  | _ => none }
def ApiKindsWrongFalsely : Prop := apiKindsRow.holds Try.pinned (OpenSpec.ofChange apiKindsWrong)

/-- 'tilllaw0.ApiHeads': WHATEVER THE INPUT: true; the input reads as it did. -/
def apiHeadsSpec : ChangeSpec := { name := "apiHeads", fn := fun _ => fun
  | [] => { results := [.lit (.bool true)], args := [] }
  | _ => none }
def apiHeadsRow : OpenClaim := { program := "ytidofjmflpcglaa", sum := "b24be198272ac32cc3610475c81ff210c690bfa52c785f3da66b2e1bd3c2c60a", func := "till/tilllaw0.ApiHeads", spec := "apiHeads", apart := false }
def ApiHeadsSaid : Prop := apiHeadsRow.holds Try.pinned (OpenSpec.ofChange apiHeadsSpec)

/-- ITS FALSE NEIGHBOUR: 'it returns false'. Refute it at one input. -/
def apiHeadsWrong : ChangeSpec := { name := "apiHeads", fn := fun _ => fun
  | [] => { results := [.lit (.bool false)], args := [] }
  | _ => none }
def ApiHeadsWrongFalsely : Prop := apiHeadsRow.holds Try.pinned (OpenSpec.ofChange apiHeadsWrong)

/-- 'tilllaw3.SumCuts': WHATEVER THE INPUT: true; the input reads as it did. -/
def sumCutsSpec : ChangeSpec := { name := "sumCuts", fn := fun _ => fun
  | [d] => { results := [.lit (.bool true)], args := [d] }
  | _ => none }
def sumCutsRow : OpenClaim := { program := "ytidofjmflpcglaa", sum := "b24be198272ac32cc3610475c81ff210c690bfa52c785f3da66b2e1bd3c2c60a", func := "till/tilllaw3.SumCuts", spec := "sumCuts", apart := false }
def SumCutsSaid : Prop := sumCutsRow.holds Try.pinned (OpenSpec.ofChange sumCutsSpec)

/-- ITS FALSE NEIGHBOUR: 'it returns false'. Refute it at one input. -/
def sumCutsWrong : ChangeSpec := { name := "sumCuts", fn := fun _ => fun
  | [d] => { results := [.lit (.bool false)], args := [d] }
  | _ => none }
def SumCutsWrongFalsely : Prop := sumCutsRow.holds Try.pinned (OpenSpec.ofChange sumCutsWrong)

/-- 'tilllaw3.SumTotal': WHATEVER THE INPUT: true; the input reads as it did. -/
def sumTotalSpec : ChangeSpec := { name := "sumTotal", fn := fun _ => fun
  | [d] => { results := [.lit (.bool true)], args := [d] }
  | _ => none }
def sumTotalRow : OpenClaim := { program := "ytidofjmflpcglaa", sum := "b24be198272ac32cc3610475c81ff210c690bfa52c785f3da66b2e1bd3c2c60a", func := "till/tilllaw3.SumTotal", spec := "sumTotal", inPlace := ["math/bits.Add64"], apart := false }
def SumTotalSaid : Prop := sumTotalRow.holds Try.pinned (OpenSpec.ofChange sumTotalSpec)

/-- ITS FALSE NEIGHBOUR: 'it returns false'. Refute it at one input. -/
def sumTotalWrong : ChangeSpec := { name := "sumTotal", fn := fun _ => fun
  | [d] => { results := [.lit (.bool false)], args := [d] }
  | _ => none }
def SumTotalWrongFalsely : Prop := sumTotalRow.holds Try.pinned (OpenSpec.ofChange sumTotalWrong)

/-- 'tilllaw3.SumOrder': WHATEVER THE INPUT: true; the input reads as it did. -/
def sumOrderSpec : ChangeSpec := { name := "sumOrder", fn := fun _ => fun
  | [d] => { results := [.lit (.bool true)], args := [d] }
  | _ => none }
def sumOrderRow : OpenClaim := { program := "ytidofjmflpcglaa", sum := "b24be198272ac32cc3610475c81ff210c690bfa52c785f3da66b2e1bd3c2c60a", func := "till/tilllaw3.SumOrder", spec := "sumOrder", inPlace := ["math/bits.Add64"], apart := false }
def SumOrderSaid : Prop := sumOrderRow.holds Try.pinned (OpenSpec.ofChange sumOrderSpec)

/-- ITS FALSE NEIGHBOUR: 'it returns false'. Refute it at one input. -/
def sumOrderWrong : ChangeSpec := { name := "sumOrder", fn := fun _ => fun
  | [d] => { results := [.lit (.bool false)], args := [d] }
  | _ => none }
def SumOrderWrongFalsely : Prop := sumOrderRow.holds Try.pinned (OpenSpec.ofChange sumOrderWrong)

/-- 'tilllaw3.SumRanges': WHATEVER THE INPUT: true; the input reads as it did. -/
def sumRangesSpec : ChangeSpec := { name := "sumRanges", fn := fun _ => fun
  | [d] => { results := [.lit (.bool true)], args := [d] }
  | _ => none }
def sumRangesRow : OpenClaim := { program := "ytidofjmflpcglaa", sum := "b24be198272ac32cc3610475c81ff210c690bfa52c785f3da66b2e1bd3c2c60a", func := "till/tilllaw3.SumRanges", spec := "sumRanges", apart := false }
def SumRangesSaid : Prop := sumRangesRow.holds Try.pinned (OpenSpec.ofChange sumRangesSpec)

/-- ITS FALSE NEIGHBOUR: 'it returns false'. Refute it at one input. -/
def sumRangesWrong : ChangeSpec := { name := "sumRanges", fn := fun _ => fun
  | [d] => { results := [.lit (.bool false)], args := [d] }
  | _ => none }
def SumRangesWrongFalsely : Prop := sumRangesRow.holds Try.pinned (OpenSpec.ofChange sumRangesWrong)

/-- 'tilllaw3.SumPairs': WHATEVER THE INPUT: true; the input reads as it did. -/
def sumPairsSpec : ChangeSpec := { name := "sumPairs", fn := fun _ => fun
  | [d] => { results := [.lit (.bool true)], args := [d] }
  | _ => none }
def sumPairsRow : OpenClaim := { program := "ytidofjmflpcglaa", sum := "b24be198272ac32cc3610475c81ff210c690bfa52c785f3da66b2e1bd3c2c60a", func := "till/tilllaw3.SumPairs", spec := "sumPairs", apart := false }
def SumPairsSaid : Prop := sumPairsRow.holds Try.pinned (OpenSpec.ofChange sumPairsSpec)

/-- ITS FALSE NEIGHBOUR: 'it returns false'. Refute it at one input. -/
def sumPairsWrong : ChangeSpec := { name := "sumPairs", fn := fun _ => fun
  | [d] => { results := [.lit (.bool false)], args := [d] }
  | _ => none }
def SumPairsWrongFalsely : Prop := sumPairsRow.holds Try.pinned (OpenSpec.ofChange sumPairsWrong)

/-- 'tilllaw3.SumLaws': WHATEVER THE INPUT: true; the input reads as it did. -/
def sumLawsSpec : ChangeSpec := { name := "sumLaws", fn := fun _ => fun
  | [d] => { results := [.lit (.bool true)], args := [d] }
  | _ => none }
def sumLawsRow : OpenClaim := { program := "ytidofjmflpcglaa", sum := "b24be198272ac32cc3610475c81ff210c690bfa52c785f3da66b2e1bd3c2c60a", func := "till/tilllaw3.SumLaws", spec := "sumLaws", apart := false }
def SumLawsSaid : Prop := sumLawsRow.holds Try.pinned (OpenSpec.ofChange sumLawsSpec)

/-- ITS FALSE NEIGHBOUR: 'it returns false'. Refute it at one input. -/
def sumLawsWrong : ChangeSpec := { name := "sumLaws", fn := fun _ => fun
  | [d] => { results := [.lit (.bool false)], args := [d] }
  | _ => none }
def SumLawsWrongFalsely : Prop := sumLawsRow.holds Try.pinned (OpenSpec.ofChange sumLawsWrong)

/-- 'tilllaw3.SumWalks': WHATEVER THE INPUT: true; the input reads as it did. -/
def sumWalksSpec : ChangeSpec := { name := "sumWalks", fn := fun _ => fun
  | [d] => { results := [.lit (.bool true)], args := [d] }
  | _ => none }
def sumWalksRow : OpenClaim := { program := "ytidofjmflpcglaa", sum := "b24be198272ac32cc3610475c81ff210c690bfa52c785f3da66b2e1bd3c2c60a", func := "till/tilllaw3.SumWalks", spec := "sumWalks", apart := false }
def SumWalksSaid : Prop := sumWalksRow.holds Try.pinned (OpenSpec.ofChange sumWalksSpec)

/-- ITS FALSE NEIGHBOUR: 'it returns false'. Refute it at one input. -/
def sumWalksWrong : ChangeSpec := { name := "sumWalks", fn := fun _ => fun
  | [d] => { results := [.lit (.bool false)], args := [d] }
  | _ => none }
def SumWalksWrongFalsely : Prop := sumWalksRow.holds Try.pinned (OpenSpec.ofChange sumWalksWrong)

/- THE SECOND FORM. 'bulk': how many values and letters a reading holds, each counted each time it is reached (what is shared counts as often as it is met; a slice's spare places count too). A statement '..UptoSaid' is the law's where the arguments, and the package variables that the reading takes, are together of bulk at most 1048576: NARROWER than '..Said'. Prove '..Said' where nothing that the law and all that it calls make is longer than what came in: it says more and counts as full. Else prove '..UptoSaid'. A law counts once. -/
mutual
def uptoBulk {H : Type} : DataW H → Nat
  | .lit (.string bytes) => bytes.length + 1
  | .lit _ => 1
  | .nil => 1
  | .ptr d => uptoBulk d + 1
  | .slice elems spare => uptoBulkAll elems + uptoBulkAll spare + 1
  | .agg parts => uptoBulkAll parts + 1
  | .iface _ d => uptoBulk d + 1
  | .map entries => uptoBulkEntries entries + 1
  | .held _ => 1
def uptoBulkAll {H : Type} : List (DataW H) → Nat
  | [] => 0
  | d :: r => uptoBulk d + uptoBulkAll r
def uptoBulkEntries {H : Type} : List (Lit × DataW H) → Nat
  | [] => 0
  | x :: r => uptoBulkEntry x + uptoBulkEntries r
def uptoBulkEntry {H : Type} : Lit × DataW H → Nat
  | (.string bytes, d) => bytes.length + uptoBulk d + 1
  | (_, d) => uptoBulk d + 1
 end
def uptoSmall : (H : Type) → List (DataW H) → Bool := fun _ ds => decide (uptoBulkAll ds ≤ 1048576)
def OpenSpec.upto (s : _root_.Go.ChangeSpec) : _root_.Go.OpenSpec := { _root_.Go.OpenSpec.ofChange s with cond := some uptoSmall }

/-- 'tilllaw0.ApiErrors', WHERE WHAT IT READS IS OF BULK AT MOST 1048576: true; the input reads as it did. -/
def apiErrorsUptoRow : OpenClaim := { program := "ytidofjmflpcglaa", sum := "b24be198272ac32cc3610475c81ff210c690bfa52c785f3da66b2e1bd3c2c60a", func := "till/tilllaw0.ApiErrors", spec := "apiErrors", apart := false, narrowed := true }
def ApiErrorsUptoSaid : Prop := apiErrorsUptoRow.holds Try.pinned (OpenSpec.upto apiErrorsSpec)

/-- 'tilllaw0.ApiLimits', WHERE WHAT IT READS IS OF BULK AT MOST 1048576: true; the input reads as it did. -/
def apiLimitsUptoRow : OpenClaim := { program := "ytidofjmflpcglaa", sum := "b24be198272ac32cc3610475c81ff210c690bfa52c785f3da66b2e1bd3c2c60a", func := "till/tilllaw0.ApiLimits", spec := "apiLimits", apart := false, narrowed := true }
def ApiLimitsUptoSaid : Prop := apiLimitsUptoRow.holds Try.pinned (OpenSpec.upto apiLimitsSpec)

/-- 'tilllaw0.ApiKinds', WHERE WHAT IT READS IS OF BULK AT MOST 1048576: true; the input reads as it did. -/
def apiKindsUptoRow : OpenClaim := { program := "ytidofjmflpcglaa", sum := "b24be198272ac32cc3610475c81ff210c690bfa52c785f3da66b2e1bd3c2c60a", func := "till/tilllaw0.ApiKinds", spec := "apiKinds", apart := false, narrowed := true }
def ApiKindsUptoSaid : Prop := apiKindsUptoRow.holds Try.pinned (OpenSpec.upto apiKindsSpec)

/-- 'tilllaw0.ApiHeads', WHERE WHAT IT READS IS OF BULK AT MOST 1048576: true; the input reads as it did. -/
def apiHeadsUptoRow : OpenClaim := { program := "ytidofjmflpcglaa", sum := "b24be198272ac32cc3610475c81ff210c690bfa52c785f3da66b2e1bd3c2c60a", func := "till/tilllaw0.ApiHeads", spec := "apiHeads", apart := false, narrowed := true }
def ApiHeadsUptoSaid : Prop := apiHeadsUptoRow.holds Try.pinned (OpenSpec.upto apiHeadsSpec)

/-- 'tilllaw3.SumCuts', WHERE WHAT IT READS IS OF BULK AT MOST 1048576: true; the input reads as it did. -/
def sumCutsUptoRow : OpenClaim := { program := "ytidofjmflpcglaa", sum := "b24be198272ac32cc3610475c81ff210c690bfa52c785f3da66b2e1bd3c2c60a", func := "till/tilllaw3.SumCuts", spec := "sumCuts", apart := false, narrowed := true }
def SumCutsUptoSaid : Prop := sumCutsUptoRow.holds Try.pinned (OpenSpec.upto sumCutsSpec)

/-- 'tilllaw3.SumTotal', WHERE WHAT IT READS IS OF BULK AT MOST 1048576: true; the input reads as it did. -/
def sumTotalUptoRow : OpenClaim := { program := "ytidofjmflpcglaa", sum := "b24be198272ac32cc3610475c81ff210c690bfa52c785f3da66b2e1bd3c2c60a", func := "till/tilllaw3.SumTotal", spec := "sumTotal", inPlace := ["math/bits.Add64"], apart := false, narrowed := true }
def SumTotalUptoSaid : Prop := sumTotalUptoRow.holds Try.pinned (OpenSpec.upto sumTotalSpec)

/-- 'tilllaw3.SumOrder', WHERE WHAT IT READS IS OF BULK AT MOST 1048576: true; the input reads as it did. -/
def sumOrderUptoRow : OpenClaim := { program := "ytidofjmflpcglaa", sum := "b24be198272ac32cc3610475c81ff210c690bfa52c785f3da66b2e1bd3c2c60a", func := "till/tilllaw3.SumOrder", spec := "sumOrder", inPlace := ["math/bits.Add64"], apart := false, narrowed := true }
def SumOrderUptoSaid : Prop := sumOrderUptoRow.holds Try.pinned (OpenSpec.upto sumOrderSpec)

/-- 'tilllaw3.SumRanges', WHERE WHAT IT READS IS OF BULK AT MOST 1048576: true; the input reads as it did. -/
def sumRangesUptoRow : OpenClaim := { program := "ytidofjmflpcglaa", sum := "b24be198272ac32cc3610475c81ff210c690bfa52c785f3da66b2e1bd3c2c60a", func := "till/tilllaw3.SumRanges", spec := "sumRanges", apart := false, narrowed := true }
def SumRangesUptoSaid : Prop := sumRangesUptoRow.holds Try.pinned (OpenSpec.upto sumRangesSpec)

/-- 'tilllaw3.SumPairs', WHERE WHAT IT READS IS OF BULK AT MOST 1048576: true; the input reads as it did. -/
def sumPairsUptoRow : OpenClaim := { program := "ytidofjmflpcglaa", sum := "b24be198272ac32cc3610475c81ff210c690bfa52c785f3da66b2e1bd3c2c60a", func := "till/tilllaw3.SumPairs", spec := "sumPairs", apart := false, narrowed := true }
def SumPairsUptoSaid : Prop := sumPairsUptoRow.holds Try.pinned (OpenSpec.upto sumPairsSpec)

/-- 'tilllaw3.SumLaws', WHERE WHAT IT READS IS OF BULK AT MOST 1048576: true; the input reads as it did. -/
def sumLawsUptoRow : OpenClaim := { program := "ytidofjmflpcglaa", sum := "b24be198272ac32cc3610475c81ff210c690bfa52c785f3da66b2e1bd3c2c60a", func := "till/tilllaw3.SumLaws", spec := "sumLaws", apart := false, narrowed := true }
def SumLawsUptoSaid : Prop := sumLawsUptoRow.holds Try.pinned (OpenSpec.upto sumLawsSpec)

/-- 'tilllaw3.SumWalks', WHERE WHAT IT READS IS OF BULK AT MOST 1048576: true; the input reads as it did. -/
def sumWalksUptoRow : OpenClaim := { program := "ytidofjmflpcglaa", sum := "b24be198272ac32cc3610475c81ff210c690bfa52c785f3da66b2e1bd3c2c60a", func := "till/tilllaw3.SumWalks", spec := "sumWalks", apart := false, narrowed := true }
def SumWalksUptoSaid : Prop := sumWalksUptoRow.holds Try.pinned (OpenSpec.upto sumWalksSpec)

end Rows
end Go.Proofs.Ytidofjmflpcglaa
