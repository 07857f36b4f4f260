/-
  NARROWER THAN 'FOR EVERY INPUT', by the rows' own cells (each row's printed sentence says how): CodeReads: laid · CodeStops: laid · CodePlace: laid · CodeTurns: laid · CodeOneForm: laid · LinkTurned: laid · LinkQuiet: laid · LinkMany: laid · LinkSessions: laid · LinkEnd: laid.
  DERIVED. THE GIVEN ROWS OF THIS SEAT. 10 by the template 'for every input the law returns true; each argument reads behind the call as it read before'; 0 by the template 'total and deterministic' (their statements: YtoeiaimoppmjdaaDoorTotals.lean).
  GIVEN WITH THE SEED: the statements are not yours to turn. If you find one false, say at which input.
  Laid BY PROGRAM, IN A SANDBOX (cutbox-rows.mjs): the forced cells as the released guide's own fill.sh prints them over the translation bd050c14d2b10baa… (all of the seat's roots in one cut). By AI agents, Wed Nov 11 2026. No macro, syntax, notation, axiom, sorry.
-/
import Derived.Test.YtoeiaimoppmjdaaDoorChecked
import GoSem.Claim
import GoSem.ClaimJoined
import GoSem.ClaimMapViews
import Derived.JoinedTies
import Derived.KernelRfl
namespace Go.Proofs.YtoeiaimoppmjdaaDoor
/- THE CELL 'sum', in the pinned program and in every row, IS THE sha256 OF THE DUMP (.gsa) THAT YtoeiaimoppmjdaaDoorProg.lean LOADS. Nothing in Lean hashes anything: it is a label: what it is worth is what the hold of that sum in a sandbox is worth. -/
noncomputable def Tryd.pinned : Pinned := { name := "ytoeiaimoppmjdaadoor", sum := "bd050c14d2b10baa4a603fd6fe8f084fbaaf45349cc5d3d986bda04a7aceca4c", checked := Tryd.checked }
namespace Rows
def none {H : Type} : Left H := { results := [], args := [] }

/- WHAT THE LISTED PACKAGE-LEVEL VARIABLES READ AS WHEN THE CALL BEGINS. Each datum BY PROGRAM (the guide's laid-datum.mjs) off the statement by which the dump's own 'gosem.cut.vars' lays the variable. In a bare row this is a premise. The card (YtoeiaimoppmjdaaDoorCards.lean) ties it to the program's text. -/
def laid_till_code_errnos {H : Type} : DataW H := .agg [.lit (.int .i64 0), .lit (.int .i64 10), .lit (.int .i64 11), .lit (.int .i64 12), .lit (.int .i64 14)]

/-- 'tilllaw1.CodeReads': WHATEVER THE INPUT: true; the input reads as it did. -/
def codeReadsSpec : ChangeSpec := { name := "codeReads", fn := fun _ => fun
  | [d] => { results := [.lit (.bool true)], args := [d] }
  | _ => none }
def codeReadsRow : OpenClaim := { program := "ytoeiaimoppmjdaadoor", sum := "bd050c14d2b10baa4a603fd6fe8f084fbaaf45349cc5d3d986bda04a7aceca4c", func := "till/tilllaw1.CodeReads", spec := "codeReads", recurses := true, named := ["till/code.errnos"], apart := false, laid := [("till/code.errnos", laid_till_code_errnos)] }
def CodeReadsSaid : Prop := codeReadsRow.holds Tryd.pinned (OpenSpec.ofChange codeReadsSpec)

/-- ITS FALSE NEIGHBOUR: 'it returns false'. Refute it at one input. -/
def codeReadsWrong : ChangeSpec := { name := "codeReads", fn := fun _ => fun
  | [d] => { results := [.lit (.bool false)], args := [d] }
  | _ => none }
def CodeReadsWrongFalsely : Prop := codeReadsRow.holds Tryd.pinned (OpenSpec.ofChange codeReadsWrong)

/-- 'tilllaw1.CodeStops': WHATEVER THE INPUT: true; the input reads as it did. -/
def codeStopsSpec : ChangeSpec := { name := "codeStops", fn := fun _ => fun
  | [d] => { results := [.lit (.bool true)], args := [d] }
  | _ => none }
def codeStopsRow : OpenClaim := { program := "ytoeiaimoppmjdaadoor", sum := "bd050c14d2b10baa4a603fd6fe8f084fbaaf45349cc5d3d986bda04a7aceca4c", func := "till/tilllaw1.CodeStops", spec := "codeStops", named := ["till/code.errnos"], apart := false, laid := [("till/code.errnos", laid_till_code_errnos)] }
def CodeStopsSaid : Prop := codeStopsRow.holds Tryd.pinned (OpenSpec.ofChange codeStopsSpec)

/-- ITS FALSE NEIGHBOUR: 'it returns false'. Refute it at one input. -/
def codeStopsWrong : ChangeSpec := { name := "codeStops", fn := fun _ => fun
  | [d] => { results := [.lit (.bool false)], args := [d] }
  | _ => none }
def CodeStopsWrongFalsely : Prop := codeStopsRow.holds Tryd.pinned (OpenSpec.ofChange codeStopsWrong)

/-- 'tilllaw1.CodePlace': WHATEVER THE INPUT: true; the input reads as it did. -/
def codePlaceSpec : ChangeSpec := { name := "codePlace", fn := fun _ => fun
  | [d] => { results := [.lit (.bool true)], args := [d] }
  | _ => none }
def codePlaceRow : OpenClaim := { program := "ytoeiaimoppmjdaadoor", sum := "bd050c14d2b10baa4a603fd6fe8f084fbaaf45349cc5d3d986bda04a7aceca4c", func := "till/tilllaw1.CodePlace", spec := "codePlace", recurses := true, named := ["till/code.errnos"], apart := false, laid := [("till/code.errnos", laid_till_code_errnos)] }
def CodePlaceSaid : Prop := codePlaceRow.holds Tryd.pinned (OpenSpec.ofChange codePlaceSpec)

/-- ITS FALSE NEIGHBOUR: 'it returns false'. Refute it at one input. -/
def codePlaceWrong : ChangeSpec := { name := "codePlace", fn := fun _ => fun
  | [d] => { results := [.lit (.bool false)], args := [d] }
  | _ => none }
def CodePlaceWrongFalsely : Prop := codePlaceRow.holds Tryd.pinned (OpenSpec.ofChange codePlaceWrong)

/-- 'tilllaw1.CodeTurns': WHATEVER THE INPUT: true; the input reads as it did. -/
def codeTurnsSpec : ChangeSpec := { name := "codeTurns", fn := fun _ => fun
  | [d] => { results := [.lit (.bool true)], args := [d] }
  | _ => none }
def codeTurnsRow : OpenClaim := { program := "ytoeiaimoppmjdaadoor", sum := "bd050c14d2b10baa4a603fd6fe8f084fbaaf45349cc5d3d986bda04a7aceca4c", func := "till/tilllaw1.CodeTurns", spec := "codeTurns", named := ["till/code.errnos"], apart := false, laid := [("till/code.errnos", laid_till_code_errnos)] }
def CodeTurnsSaid : Prop := codeTurnsRow.holds Tryd.pinned (OpenSpec.ofChange codeTurnsSpec)

/-- ITS FALSE NEIGHBOUR: 'it returns false'. Refute it at one input. -/
def codeTurnsWrong : ChangeSpec := { name := "codeTurns", fn := fun _ => fun
  | [d] => { results := [.lit (.bool false)], args := [d] }
  | _ => none }
def CodeTurnsWrongFalsely : Prop := codeTurnsRow.holds Tryd.pinned (OpenSpec.ofChange codeTurnsWrong)

/-- 'tilllaw1.CodeOneForm': WHATEVER THE INPUT: true; the input reads as it did. -/
def codeOneFormSpec : ChangeSpec := { name := "codeOneForm", fn := fun _ => fun
  | [d] => { results := [.lit (.bool true)], args := [d] }
  | _ => none }
def codeOneFormRow : OpenClaim := { program := "ytoeiaimoppmjdaadoor", sum := "bd050c14d2b10baa4a603fd6fe8f084fbaaf45349cc5d3d986bda04a7aceca4c", func := "till/tilllaw1.CodeOneForm", spec := "codeOneForm", named := ["till/code.errnos"], apart := false, laid := [("till/code.errnos", laid_till_code_errnos)] }
def CodeOneFormSaid : Prop := codeOneFormRow.holds Tryd.pinned (OpenSpec.ofChange codeOneFormSpec)

/-- ITS FALSE NEIGHBOUR: 'it returns false'. Refute it at one input. -/
def codeOneFormWrong : ChangeSpec := { name := "codeOneForm", fn := fun _ => fun
  | [d] => { results := [.lit (.bool false)], args := [d] }
  | _ => none }
def CodeOneFormWrongFalsely : Prop := codeOneFormRow.holds Tryd.pinned (OpenSpec.ofChange codeOneFormWrong)

/-- 'tilllaw14.LinkTurned': WHATEVER THE INPUT: true; the input reads as it did. -/
def linkTurnedSpec : ChangeSpec := { name := "linkTurned", fn := fun _ => fun
  | [d] => { results := [.lit (.bool true)], args := [d] }
  | _ => none }
def linkTurnedRow : OpenClaim := { program := "ytoeiaimoppmjdaadoor", sum := "bd050c14d2b10baa4a603fd6fe8f084fbaaf45349cc5d3d986bda04a7aceca4c", func := "till/tilllaw14.LinkTurned", spec := "linkTurned", unfollowed := true, recurses := true, named := ["till/code.errnos"], apart := false, laid := [("till/code.errnos", laid_till_code_errnos)] }
def LinkTurnedSaid : Prop := linkTurnedRow.holds Tryd.pinned (OpenSpec.ofChange linkTurnedSpec)

/-- ITS FALSE NEIGHBOUR: 'it returns false'. Refute it at one input. -/
def linkTurnedWrong : ChangeSpec := { name := "linkTurned", fn := fun _ => fun
  | [d] => { results := [.lit (.bool false)], args := [d] }
  | _ => none }
def LinkTurnedWrongFalsely : Prop := linkTurnedRow.holds Tryd.pinned (OpenSpec.ofChange linkTurnedWrong)

/-- 'tilllaw14.LinkQuiet': WHATEVER THE INPUT: true; the input reads as it did. -/
def linkQuietSpec : ChangeSpec := { name := "linkQuiet", fn := fun _ => fun
  | [d] => { results := [.lit (.bool true)], args := [d] }
  | _ => none }
def linkQuietRow : OpenClaim := { program := "ytoeiaimoppmjdaadoor", sum := "bd050c14d2b10baa4a603fd6fe8f084fbaaf45349cc5d3d986bda04a7aceca4c", func := "till/tilllaw14.LinkQuiet", spec := "linkQuiet", unfollowed := true, recurses := true, named := ["till/code.errnos"], apart := false, laid := [("till/code.errnos", laid_till_code_errnos)] }
def LinkQuietSaid : Prop := linkQuietRow.holds Tryd.pinned (OpenSpec.ofChange linkQuietSpec)

/-- ITS FALSE NEIGHBOUR: 'it returns false'. Refute it at one input. -/
def linkQuietWrong : ChangeSpec := { name := "linkQuiet", fn := fun _ => fun
  | [d] => { results := [.lit (.bool false)], args := [d] }
  | _ => none }
def LinkQuietWrongFalsely : Prop := linkQuietRow.holds Tryd.pinned (OpenSpec.ofChange linkQuietWrong)

/-- 'tilllaw14.LinkMany': WHATEVER THE INPUT: true; the input reads as it did. -/
def linkManySpec : ChangeSpec := { name := "linkMany", fn := fun _ => fun
  | [d] => { results := [.lit (.bool true)], args := [d] }
  | _ => none }
def linkManyRow : OpenClaim := { program := "ytoeiaimoppmjdaadoor", sum := "bd050c14d2b10baa4a603fd6fe8f084fbaaf45349cc5d3d986bda04a7aceca4c", func := "till/tilllaw14.LinkMany", spec := "linkMany", unfollowed := true, recurses := true, named := ["till/code.errnos"], apart := false, laid := [("till/code.errnos", laid_till_code_errnos)] }
def LinkManySaid : Prop := linkManyRow.holds Tryd.pinned (OpenSpec.ofChange linkManySpec)

/-- ITS FALSE NEIGHBOUR: 'it returns false'. Refute it at one input. -/
def linkManyWrong : ChangeSpec := { name := "linkMany", fn := fun _ => fun
  | [d] => { results := [.lit (.bool false)], args := [d] }
  | _ => none }
def LinkManyWrongFalsely : Prop := linkManyRow.holds Tryd.pinned (OpenSpec.ofChange linkManyWrong)

/-- 'tilllaw14.LinkSessions': WHATEVER THE INPUT: true; the input reads as it did. -/
def linkSessionsSpec : ChangeSpec := { name := "linkSessions", fn := fun _ => fun
  | [d] => { results := [.lit (.bool true)], args := [d] }
  | _ => none }
def linkSessionsRow : OpenClaim := { program := "ytoeiaimoppmjdaadoor", sum := "bd050c14d2b10baa4a603fd6fe8f084fbaaf45349cc5d3d986bda04a7aceca4c", func := "till/tilllaw14.LinkSessions", spec := "linkSessions", unfollowed := true, recurses := true, named := ["till/code.errnos"], apart := false, laid := [("till/code.errnos", laid_till_code_errnos)] }
def LinkSessionsSaid : Prop := linkSessionsRow.holds Tryd.pinned (OpenSpec.ofChange linkSessionsSpec)

/-- ITS FALSE NEIGHBOUR: 'it returns false'. Refute it at one input. -/
def linkSessionsWrong : ChangeSpec := { name := "linkSessions", fn := fun _ => fun
  | [d] => { results := [.lit (.bool false)], args := [d] }
  | _ => none }
def LinkSessionsWrongFalsely : Prop := linkSessionsRow.holds Tryd.pinned (OpenSpec.ofChange linkSessionsWrong)

/-- 'tilllaw14.LinkEnd': WHATEVER THE INPUT: true; the input reads as it did. -/
def linkEndSpec : ChangeSpec := { name := "linkEnd", fn := fun _ => fun
  | [d] => { results := [.lit (.bool true)], args := [d] }
  | _ => none }
def linkEndRow : OpenClaim := { program := "ytoeiaimoppmjdaadoor", sum := "bd050c14d2b10baa4a603fd6fe8f084fbaaf45349cc5d3d986bda04a7aceca4c", func := "till/tilllaw14.LinkEnd", spec := "linkEnd", unfollowed := true, recurses := true, named := ["till/code.errnos"], apart := false, laid := [("till/code.errnos", laid_till_code_errnos)] }
def LinkEndSaid : Prop := linkEndRow.holds Tryd.pinned (OpenSpec.ofChange linkEndSpec)

/-- ITS FALSE NEIGHBOUR: 'it returns false'. Refute it at one input. -/
def linkEndWrong : ChangeSpec := { name := "linkEnd", fn := fun _ => fun
  | [d] => { results := [.lit (.bool false)], args := [d] }
  | _ => none }
def LinkEndWrongFalsely : Prop := linkEndRow.holds Tryd.pinned (OpenSpec.ofChange linkEndWrong)

/- THE SECOND FORM. 'bulk': how many values and letters a reading holds, each counted each time it is reached (what is shared counts as often as it is met; a slice's spare places count too). A statement '..UptoSaid' is the law's where the arguments, and the package variables that the reading takes, are together of bulk at most 1048576: NARROWER than '..Said'. Prove '..Said' where nothing that the law and all that it calls make is longer than what came in: it says more and counts as full. Else prove '..UptoSaid'. A law counts once. -/
mutual
def uptoBulk {H : Type} : DataW H → Nat
  | .lit (.string bytes) => bytes.length + 1
  | .lit _ => 1
  | .nil => 1
  | .ptr d => uptoBulk d + 1
  | .slice elems spare => uptoBulkAll elems + uptoBulkAll spare + 1
  | .agg parts => uptoBulkAll parts + 1
  | .iface _ d => uptoBulk d + 1
  | .map entries => uptoBulkEntries entries + 1
  | .held _ => 1
def uptoBulkAll {H : Type} : List (DataW H) → Nat
  | [] => 0
  | d :: r => uptoBulk d + uptoBulkAll r
def uptoBulkEntries {H : Type} : List (Lit × DataW H) → Nat
  | [] => 0
  | x :: r => uptoBulkEntry x + uptoBulkEntries r
def uptoBulkEntry {H : Type} : Lit × DataW H → Nat
  | (.string bytes, d) => bytes.length + uptoBulk d + 1
  | (_, d) => uptoBulk d + 1
 end
def uptoSmall : (H : Type) → List (DataW H) → Bool := fun _ ds => decide (uptoBulkAll ds ≤ 1048576)
def OpenSpec.upto (s : _root_.Go.ChangeSpec) : _root_.Go.OpenSpec := { _root_.Go.OpenSpec.ofChange s with cond := some uptoSmall }

/-- 'tilllaw1.CodeReads', WHERE WHAT IT READS IS OF BULK AT MOST 1048576: true; the input reads as it did. -/
def codeReadsUptoRow : OpenClaim := { program := "ytoeiaimoppmjdaadoor", sum := "bd050c14d2b10baa4a603fd6fe8f084fbaaf45349cc5d3d986bda04a7aceca4c", func := "till/tilllaw1.CodeReads", spec := "codeReads", recurses := true, named := ["till/code.errnos"], apart := false, laid := [("till/code.errnos", laid_till_code_errnos)], narrowed := true }
def CodeReadsUptoSaid : Prop := codeReadsUptoRow.holds Tryd.pinned (OpenSpec.upto codeReadsSpec)

/-- 'tilllaw1.CodeStops', WHERE WHAT IT READS IS OF BULK AT MOST 1048576: true; the input reads as it did. -/
def codeStopsUptoRow : OpenClaim := { program := "ytoeiaimoppmjdaadoor", sum := "bd050c14d2b10baa4a603fd6fe8f084fbaaf45349cc5d3d986bda04a7aceca4c", func := "till/tilllaw1.CodeStops", spec := "codeStops", named := ["till/code.errnos"], apart := false, laid := [("till/code.errnos", laid_till_code_errnos)], narrowed := true }
def CodeStopsUptoSaid : Prop := codeStopsUptoRow.holds Tryd.pinned (OpenSpec.upto codeStopsSpec)

/-- 'tilllaw1.CodePlace', WHERE WHAT IT READS IS OF BULK AT MOST 1048576: true; the input reads as it did. -/
def codePlaceUptoRow : OpenClaim := { program := "ytoeiaimoppmjdaadoor", sum := "bd050c14d2b10baa4a603fd6fe8f084fbaaf45349cc5d3d986bda04a7aceca4c", func := "till/tilllaw1.CodePlace", spec := "codePlace", recurses := true, named := ["till/code.errnos"], apart := false, laid := [("till/code.errnos", laid_till_code_errnos)], narrowed := true }
def CodePlaceUptoSaid : Prop := codePlaceUptoRow.holds Tryd.pinned (OpenSpec.upto codePlaceSpec)

/-- 'tilllaw1.CodeTurns', WHERE WHAT IT READS IS OF BULK AT MOST 1048576: true; the input reads as it did. -/
def codeTurnsUptoRow : OpenClaim := { program := "ytoeiaimoppmjdaadoor", sum := "bd050c14d2b10baa4a603fd6fe8f084fbaaf45349cc5d3d986bda04a7aceca4c", func := "till/tilllaw1.CodeTurns", spec := "codeTurns", named := ["till/code.errnos"], apart := false, laid := [("till/code.errnos", laid_till_code_errnos)], narrowed := true }
def CodeTurnsUptoSaid : Prop := codeTurnsUptoRow.holds Tryd.pinned (OpenSpec.upto codeTurnsSpec)

/-- 'tilllaw1.CodeOneForm', WHERE WHAT IT READS IS OF BULK AT MOST 1048576: true; the input reads as it did. -/
def codeOneFormUptoRow : OpenClaim := { program := "ytoeiaimoppmjdaadoor", sum := "bd050c14d2b10baa4a603fd6fe8f084fbaaf45349cc5d3d986bda04a7aceca4c", func := "till/tilllaw1.CodeOneForm", spec := "codeOneForm", named := ["till/code.errnos"], apart := false, laid := [("till/code.errnos", laid_till_code_errnos)], narrowed := true }
def CodeOneFormUptoSaid : Prop := codeOneFormUptoRow.holds Tryd.pinned (OpenSpec.upto codeOneFormSpec)

/-- 'tilllaw14.LinkTurned', WHERE WHAT IT READS IS OF BULK AT MOST 1048576: true; the input reads as it did. -/
def linkTurnedUptoRow : OpenClaim := { program := "ytoeiaimoppmjdaadoor", sum := "bd050c14d2b10baa4a603fd6fe8f084fbaaf45349cc5d3d986bda04a7aceca4c", func := "till/tilllaw14.LinkTurned", spec := "linkTurned", unfollowed := true, recurses := true, named := ["till/code.errnos"], apart := false, laid := [("till/code.errnos", laid_till_code_errnos)], narrowed := true }
def LinkTurnedUptoSaid : Prop := linkTurnedUptoRow.holds Tryd.pinned (OpenSpec.upto linkTurnedSpec)

/-- 'tilllaw14.LinkQuiet', WHERE WHAT IT READS IS OF BULK AT MOST 1048576: true; the input reads as it did. -/
def linkQuietUptoRow : OpenClaim := { program := "ytoeiaimoppmjdaadoor", sum := "bd050c14d2b10baa4a603fd6fe8f084fbaaf45349cc5d3d986bda04a7aceca4c", func := "till/tilllaw14.LinkQuiet", spec := "linkQuiet", unfollowed := true, recurses := true, named := ["till/code.errnos"], apart := false, laid := [("till/code.errnos", laid_till_code_errnos)], narrowed := true }
def LinkQuietUptoSaid : Prop := linkQuietUptoRow.holds Tryd.pinned (OpenSpec.upto linkQuietSpec)

/-- 'tilllaw14.LinkMany', WHERE WHAT IT READS IS OF BULK AT MOST 1048576: true; the input reads as it did. -/
def linkManyUptoRow : OpenClaim := { program := "ytoeiaimoppmjdaadoor", sum := "bd050c14d2b10baa4a603fd6fe8f084fbaaf45349cc5d3d986bda04a7aceca4c", func := "till/tilllaw14.LinkMany", spec := "linkMany", unfollowed := true, recurses := true, named := ["till/code.errnos"], apart := false, laid := [("till/code.errnos", laid_till_code_errnos)], narrowed := true }
def LinkManyUptoSaid : Prop := linkManyUptoRow.holds Tryd.pinned (OpenSpec.upto linkManySpec)

/-- 'tilllaw14.LinkSessions', WHERE WHAT IT READS IS OF BULK AT MOST 1048576: true; the input reads as it did. -/
def linkSessionsUptoRow : OpenClaim := { program := "ytoeiaimoppmjdaadoor", sum := "bd050c14d2b10baa4a603fd6fe8f084fbaaf45349cc5d3d986bda04a7aceca4c", func := "till/tilllaw14.LinkSessions", spec := "linkSessions", unfollowed := true, recurses := true, named := ["till/code.errnos"], apart := false, laid := [("till/code.errnos", laid_till_code_errnos)], narrowed := true }
def LinkSessionsUptoSaid : Prop := linkSessionsUptoRow.holds Tryd.pinned (OpenSpec.upto linkSessionsSpec)

/-- 'tilllaw14.LinkEnd', WHERE WHAT IT READS IS OF BULK AT MOST 1048576: true; the input reads as it did. -/
def linkEndUptoRow : OpenClaim := { program := "ytoeiaimoppmjdaadoor", sum := "bd050c14d2b10baa4a603fd6fe8f084fbaaf45349cc5d3d986bda04a7aceca4c", func := "till/tilllaw14.LinkEnd", spec := "linkEnd", unfollowed := true, recurses := true, named := ["till/code.errnos"], apart := false, laid := [("till/code.errnos", laid_till_code_errnos)], narrowed := true }
def LinkEndUptoSaid : Prop := linkEndUptoRow.holds Tryd.pinned (OpenSpec.upto linkEndSpec)

end Rows
end Go.Proofs.YtoeiaimoppmjdaaDoor
