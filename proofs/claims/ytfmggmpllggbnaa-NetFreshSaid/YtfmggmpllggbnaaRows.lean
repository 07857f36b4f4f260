/-
  No cell of these rows narrows 'for every input' (looked for: loops, veiled, ifaces, maps, wideKeys, modest, calm, conditions, laid).
  DERIVED. THE GIVEN ROWS OF THIS SEAT. 6 by the template 'for every input the law returns true; each argument reads behind the call as it read before'; 0 by the template 'total and deterministic' (their statements: YtfmggmpllggbnaaTotals.lean).
  GIVEN WITH THE SEED: the statements are not yours to turn. If you find one false, say at which input.
  Laid BY PROGRAM, IN A SANDBOX (cutbox-rows.mjs): the forced cells as the released guide's own fill.sh prints them over the translation 6b58530bc190ac45… (all of the seat's roots in one cut). By AI agents, Wed Nov 11 2026. No macro, syntax, notation, axiom, sorry.
-/
import Derived.Test.YtfmggmpllggbnaaChecked
import GoSem.Claim
import GoSem.ClaimJoined
import GoSem.ClaimMapViews
import Derived.JoinedTies
import Derived.KernelRfl
namespace Go.Proofs.Ytfmggmpllggbnaa
/- THE CELL 'sum', in the pinned program and in every row, IS THE sha256 OF THE DUMP (.gsa) THAT YtfmggmpllggbnaaProg.lean LOADS. Nothing in Lean hashes anything: it is a label: what it is worth is what the hold of that sum in a sandbox is worth. -/
noncomputable def Try.pinned : Pinned := { name := "ytfmggmpllggbnaa", sum := "6b58530bc190ac458c24bf0da5ec214b39cc8d0ee75830af39059ecffe3e9008", checked := Try.checked }
namespace Rows
def none {H : Type} : Left H := { results := [], args := [] }

/-- 'tilllaw7.PaceExact': WHATEVER THE INPUT: true; the input reads as it did. -/
def paceExactSpec : ChangeSpec := { name := "paceExact", fn := fun _ => fun
  | [d] => { results := [.lit (.bool true)], args := [d] }
  | _ => none }
def paceExactRow : OpenClaim := { program := "ytfmggmpllggbnaa", sum := "6b58530bc190ac458c24bf0da5ec214b39cc8d0ee75830af39059ecffe3e9008", func := "till/tilllaw7.PaceExact", spec := "paceExact", unfollowed := true, recurses := true, apart := false }
def PaceExactSaid : Prop := paceExactRow.holds Try.pinned (OpenSpec.ofChange paceExactSpec)

/-- ITS FALSE NEIGHBOUR: 'it returns false'. Refute it at one input. -/
def paceExactWrong : ChangeSpec := { name := "paceExact", fn := fun _ => fun
  | [d] => { results := [.lit (.bool false)], args := [d] }
  | _ => none }
def PaceExactWrongFalsely : Prop := paceExactRow.holds Try.pinned (OpenSpec.ofChange paceExactWrong)

/-- 'tilllaw7.PaceBounded': WHATEVER THE INPUT: true; the input reads as it did. -/
def paceBoundedSpec : ChangeSpec := { name := "paceBounded", fn := fun _ => fun
  | [d] => { results := [.lit (.bool true)], args := [d] }
  | _ => none }
def paceBoundedRow : OpenClaim := { program := "ytfmggmpllggbnaa", sum := "6b58530bc190ac458c24bf0da5ec214b39cc8d0ee75830af39059ecffe3e9008", func := "till/tilllaw7.PaceBounded", spec := "paceBounded", unfollowed := true, recurses := true, apart := false }
def PaceBoundedSaid : Prop := paceBoundedRow.holds Try.pinned (OpenSpec.ofChange paceBoundedSpec)

/-- ITS FALSE NEIGHBOUR: 'it returns false'. Refute it at one input. -/
def paceBoundedWrong : ChangeSpec := { name := "paceBounded", fn := fun _ => fun
  | [d] => { results := [.lit (.bool false)], args := [d] }
  | _ => none }
def PaceBoundedWrongFalsely : Prop := paceBoundedRow.holds Try.pinned (OpenSpec.ofChange paceBoundedWrong)

/-- 'tilllaw7.PaceAnew': WHATEVER THE INPUT: true; the input reads as it did. -/
def paceAnewSpec : ChangeSpec := { name := "paceAnew", fn := fun _ => fun
  | [d] => { results := [.lit (.bool true)], args := [d] }
  | _ => none }
def paceAnewRow : OpenClaim := { program := "ytfmggmpllggbnaa", sum := "6b58530bc190ac458c24bf0da5ec214b39cc8d0ee75830af39059ecffe3e9008", func := "till/tilllaw7.PaceAnew", spec := "paceAnew", unfollowed := true, recurses := true, apart := false }
def PaceAnewSaid : Prop := paceAnewRow.holds Try.pinned (OpenSpec.ofChange paceAnewSpec)

/-- ITS FALSE NEIGHBOUR: 'it returns false'. Refute it at one input. -/
def paceAnewWrong : ChangeSpec := { name := "paceAnew", fn := fun _ => fun
  | [d] => { results := [.lit (.bool false)], args := [d] }
  | _ => none }
def PaceAnewWrongFalsely : Prop := paceAnewRow.holds Try.pinned (OpenSpec.ofChange paceAnewWrong)

/-- 'tilllaw6.NetExact': WHATEVER THE INPUT: true; the input reads as it did. -/
def netExactSpec : ChangeSpec := { name := "netExact", fn := fun _ => fun
  | [d] => { results := [.lit (.bool true)], args := [d] }
  | _ => none }
def netExactRow : OpenClaim := { program := "ytfmggmpllggbnaa", sum := "6b58530bc190ac458c24bf0da5ec214b39cc8d0ee75830af39059ecffe3e9008", func := "till/tilllaw6.NetExact", spec := "netExact", apart := false }
def NetExactSaid : Prop := netExactRow.holds Try.pinned (OpenSpec.ofChange netExactSpec)

/-- ITS FALSE NEIGHBOUR: 'it returns false'. Refute it at one input. -/
def netExactWrong : ChangeSpec := { name := "netExact", fn := fun _ => fun
  | [d] => { results := [.lit (.bool false)], args := [d] }
  | _ => none }
def NetExactWrongFalsely : Prop := netExactRow.holds Try.pinned (OpenSpec.ofChange netExactWrong)

/-- 'tilllaw6.NetFresh': WHATEVER THE INPUT: true; the input reads as it did. -/
def netFreshSpec : ChangeSpec := { name := "netFresh", fn := fun _ => fun
  | [d] => { results := [.lit (.bool true)], args := [d] }
  | _ => none }
def netFreshRow : OpenClaim := { program := "ytfmggmpllggbnaa", sum := "6b58530bc190ac458c24bf0da5ec214b39cc8d0ee75830af39059ecffe3e9008", func := "till/tilllaw6.NetFresh", spec := "netFresh", apart := false }
def NetFreshSaid : Prop := netFreshRow.holds Try.pinned (OpenSpec.ofChange netFreshSpec)

/-- ITS FALSE NEIGHBOUR: 'it returns false'. Refute it at one input. -/
def netFreshWrong : ChangeSpec := { name := "netFresh", fn := fun _ => fun
  | [d] => { results := [.lit (.bool false)], args := [d] }
  | _ => none }
def NetFreshWrongFalsely : Prop := netFreshRow.holds Try.pinned (OpenSpec.ofChange netFreshWrong)

/-- 'tilllaw6.NetKeeps': WHATEVER THE INPUT: true; the input reads as it did. -/
def netKeepsSpec : ChangeSpec := { name := "netKeeps", fn := fun _ => fun
  | [d] => { results := [.lit (.bool true)], args := [d] }
  | _ => none }
def netKeepsRow : OpenClaim := { program := "ytfmggmpllggbnaa", sum := "6b58530bc190ac458c24bf0da5ec214b39cc8d0ee75830af39059ecffe3e9008", func := "till/tilllaw6.NetKeeps", spec := "netKeeps", apart := false }
def NetKeepsSaid : Prop := netKeepsRow.holds Try.pinned (OpenSpec.ofChange netKeepsSpec)

/-- ITS FALSE NEIGHBOUR: 'it returns false'. Refute it at one input. -/
def netKeepsWrong : ChangeSpec := { name := "netKeeps", fn := fun _ => fun
  | [d] => { results := [.lit (.bool false)], args := [d] }
  | _ => none }
def NetKeepsWrongFalsely : Prop := netKeepsRow.holds Try.pinned (OpenSpec.ofChange netKeepsWrong)

/- THE SECOND FORM. 'bulk': how many values and letters a reading holds, each counted each time it is reached (what is shared counts as often as it is met; a slice's spare places count too). A statement '..UptoSaid' is the law's where the arguments, and the package variables that the reading takes, are together of bulk at most 1048576: NARROWER than '..Said'. Prove '..Said' where nothing that the law and all that it calls make is longer than what came in: it says more and counts as full. Else prove '..UptoSaid'. A law counts once. -/
mutual
def uptoBulk {H : Type} : DataW H → Nat
  | .lit (.string bytes) => bytes.length + 1
  | .lit _ => 1
  | .nil => 1
  | .ptr d => uptoBulk d + 1
  | .slice elems spare => uptoBulkAll elems + uptoBulkAll spare + 1
  | .agg parts => uptoBulkAll parts + 1
  | .iface _ d => uptoBulk d + 1
  | .map entries => uptoBulkEntries entries + 1
  | .held _ => 1
def uptoBulkAll {H : Type} : List (DataW H) → Nat
  | [] => 0
  | d :: r => uptoBulk d + uptoBulkAll r
def uptoBulkEntries {H : Type} : List (Lit × DataW H) → Nat
  | [] => 0
  | x :: r => uptoBulkEntry x + uptoBulkEntries r
def uptoBulkEntry {H : Type} : Lit × DataW H → Nat
  | (.string bytes, d) => bytes.length + uptoBulk d + 1
  | (_, d) => uptoBulk d + 1
 end
def uptoSmall : (H : Type) → List (DataW H) → Bool := fun _ ds => decide (uptoBulkAll ds ≤ 1048576)
def OpenSpec.upto (s : _root_.Go.ChangeSpec) : _root_.Go.OpenSpec := { _root_.Go.OpenSpec.ofChange s with cond := some uptoSmall }

/-- 'tilllaw7.PaceExact', WHERE WHAT IT READS IS OF BULK AT MOST 1048576: true; the input reads as it did. -/
def paceExactUptoRow : OpenClaim := { program := "ytfmggmpllggbnaa", sum := "6b58530bc190ac458c24bf0da5ec214b39cc8d0ee75830af39059ecffe3e9008", func := "till/tilllaw7.PaceExact", spec := "paceExact", unfollowed := true, recurses := true, apart := false, narrowed := true }
def PaceExactUptoSaid : Prop := paceExactUptoRow.holds Try.pinned (OpenSpec.upto paceExactSpec)

/-- 'tilllaw7.PaceBounded', WHERE WHAT IT READS IS OF BULK AT MOST 1048576: true; the input reads as it did. -/
def paceBoundedUptoRow : OpenClaim := { program := "ytfmggmpllggbnaa", sum := "6b58530bc190ac458c24bf0da5ec214b39cc8d0ee75830af39059ecffe3e9008", func := "till/tilllaw7.PaceBounded", spec := "paceBounded", unfollowed := true, recurses := true, apart := false, narrowed := true }
def PaceBoundedUptoSaid : Prop := paceBoundedUptoRow.holds Try.pinned (OpenSpec.upto paceBoundedSpec)

/-- 'tilllaw7.PaceAnew', WHERE WHAT IT READS IS OF BULK AT MOST 1048576: true; the input reads as it did. -/
def paceAnewUptoRow : OpenClaim := { program := "ytfmggmpllggbnaa", sum := "6b58530bc190ac458c24bf0da5ec214b39cc8d0ee75830af39059ecffe3e9008", func := "till/tilllaw7.PaceAnew", spec := "paceAnew", unfollowed := true, recurses := true, apart := false, narrowed := true }
def PaceAnewUptoSaid : Prop := paceAnewUptoRow.holds Try.pinned (OpenSpec.upto paceAnewSpec)

/-- 'tilllaw6.NetExact', WHERE WHAT IT READS IS OF BULK AT MOST 1048576: true; the input reads as it did. -/
def netExactUptoRow : OpenClaim := { program := "ytfmggmpllggbnaa", sum := "6b58530bc190ac458c24bf0da5ec214b39cc8d0ee75830af39059ecffe3e9008", func := "till/tilllaw6.NetExact", spec := "netExact", apart := false, narrowed := true }
def NetExactUptoSaid : Prop := netExactUptoRow.holds Try.pinned (OpenSpec.upto netExactSpec)

/-- 'tilllaw6.NetFresh', WHERE WHAT IT READS IS OF BULK AT MOST 1048576: true; the input reads as it did. -/
def netFreshUptoRow : OpenClaim := { program := "ytfmggmpllggbnaa", sum := "6b58530bc190ac458c24bf0da5ec214b39cc8d0ee75830af39059ecffe3e9008", func := "till/tilllaw6.NetFresh", spec := "netFresh", apart := false, narrowed := true }
def NetFreshUptoSaid : Prop := netFreshUptoRow.holds Try.pinned (OpenSpec.upto netFreshSpec)

/-- 'tilllaw6.NetKeeps', WHERE WHAT IT READS IS OF BULK AT MOST 1048576: true; the input reads as it did. -/
def netKeepsUptoRow : OpenClaim := { program := "ytfmggmpllggbnaa", sum := "6b58530bc190ac458c24bf0da5ec214b39cc8d0ee75830af39059ecffe3e9008", func := "till/tilllaw6.NetKeeps", spec := "netKeeps", apart := false, narrowed := true }
def NetKeepsUptoSaid : Prop := netKeepsUptoRow.holds Try.pinned (OpenSpec.upto netKeepsSpec)

end Rows
end Go.Proofs.Ytfmggmpllggbnaa
