/-
  DERIVED. GIVEN WITH THE SEED: THE CARDS: each row of YtoeiaimoppmjdaaDoorRows.lean that lists a variable, with what it lists TIED to the program's text (the seventh form; the later family's looks); each row that meets fmt, with fmt's text TOLD by the authors' own Lean function (tested against real Go, not proved from fmt's source: count such statements apart). THE CARD IS WHAT COUNTS. Prove the row's statement (the work); the ties are given (YtoeiaimoppmjdaaDoorTie.lean); close each card by the builder's one call (the guide's Derived/Test/ToyasCard.lean, 'card_holds'). Laid BY PROGRAM, IN A SANDBOX (cutbox-door.mjs). By AI agents, Wed Nov 11 2026. No macro, syntax, notation, axiom, sorry.
-/
import Derived.Test.YtoeiaimoppmjdaaDoorRows
import GoSem.ClaimSeven
namespace Go.Proofs.YtoeiaimoppmjdaaDoor
namespace Rows

/-- THE TIED CARD OF 'tilllaw1.CodeReads'. -/
def codeReadsCard : Claim7 := { stood := { row := codeReadsRow, standIns := [], harness := (true, "68e8713da016869f592e38fdb60adb0e39fd4324369dff249597fc88493487c4"), looks := false }, kinds := [], alts := [], laidByText := true, laidKinds := [.data], laidTests := true, laidLooks := .later }
def CodeReadsCardSaid : Prop := Claim7.holds Tryd.pinned (.plain (OpenSpec.ofChange codeReadsSpec)) codeReadsCard

/-- THE TIED CARD OF 'tilllaw1.CodeStops'. -/
def codeStopsCard : Claim7 := { stood := { row := codeStopsRow, standIns := [], harness := (true, "68e8713da016869f592e38fdb60adb0e39fd4324369dff249597fc88493487c4"), looks := false }, kinds := [], alts := [], laidByText := true, laidKinds := [.data], laidTests := true, laidLooks := .later }
def CodeStopsCardSaid : Prop := Claim7.holds Tryd.pinned (.plain (OpenSpec.ofChange codeStopsSpec)) codeStopsCard

/-- THE TIED CARD OF 'tilllaw1.CodePlace'. -/
def codePlaceCard : Claim7 := { stood := { row := codePlaceRow, standIns := [], harness := (true, "68e8713da016869f592e38fdb60adb0e39fd4324369dff249597fc88493487c4"), looks := false }, kinds := [], alts := [], laidByText := true, laidKinds := [.data], laidTests := true, laidLooks := .later }
def CodePlaceCardSaid : Prop := Claim7.holds Tryd.pinned (.plain (OpenSpec.ofChange codePlaceSpec)) codePlaceCard

/-- THE TIED CARD OF 'tilllaw1.CodeTurns'. -/
def codeTurnsCard : Claim7 := { stood := { row := codeTurnsRow, standIns := [], harness := (true, "68e8713da016869f592e38fdb60adb0e39fd4324369dff249597fc88493487c4"), looks := false }, kinds := [], alts := [], laidByText := true, laidKinds := [.data], laidTests := true, laidLooks := .later }
def CodeTurnsCardSaid : Prop := Claim7.holds Tryd.pinned (.plain (OpenSpec.ofChange codeTurnsSpec)) codeTurnsCard

/-- THE TIED CARD OF 'tilllaw1.CodeOneForm'. -/
def codeOneFormCard : Claim7 := { stood := { row := codeOneFormRow, standIns := [], harness := (true, "68e8713da016869f592e38fdb60adb0e39fd4324369dff249597fc88493487c4"), looks := false }, kinds := [], alts := [], laidByText := true, laidKinds := [.data], laidTests := true, laidLooks := .later }
def CodeOneFormCardSaid : Prop := Claim7.holds Tryd.pinned (.plain (OpenSpec.ofChange codeOneFormSpec)) codeOneFormCard

/-- THE TIED CARD OF 'tilllaw14.LinkTurned'. -/
def linkTurnedCard : Claim7 := { stood := { row := linkTurnedRow, standIns := [], harness := (true, "68e8713da016869f592e38fdb60adb0e39fd4324369dff249597fc88493487c4"), looks := false }, kinds := [], alts := [], laidByText := true, laidKinds := [.data], laidTests := true, laidLooks := .later }
def LinkTurnedCardSaid : Prop := Claim7.holds Tryd.pinned (.plain (OpenSpec.ofChange linkTurnedSpec)) linkTurnedCard

/-- THE TIED CARD OF 'tilllaw14.LinkQuiet'. -/
def linkQuietCard : Claim7 := { stood := { row := linkQuietRow, standIns := [], harness := (true, "68e8713da016869f592e38fdb60adb0e39fd4324369dff249597fc88493487c4"), looks := false }, kinds := [], alts := [], laidByText := true, laidKinds := [.data], laidTests := true, laidLooks := .later }
def LinkQuietCardSaid : Prop := Claim7.holds Tryd.pinned (.plain (OpenSpec.ofChange linkQuietSpec)) linkQuietCard

/-- THE TIED CARD OF 'tilllaw14.LinkMany'. -/
def linkManyCard : Claim7 := { stood := { row := linkManyRow, standIns := [], harness := (true, "68e8713da016869f592e38fdb60adb0e39fd4324369dff249597fc88493487c4"), looks := false }, kinds := [], alts := [], laidByText := true, laidKinds := [.data], laidTests := true, laidLooks := .later }
def LinkManyCardSaid : Prop := Claim7.holds Tryd.pinned (.plain (OpenSpec.ofChange linkManySpec)) linkManyCard

/-- THE TIED CARD OF 'tilllaw14.LinkSessions'. -/
def linkSessionsCard : Claim7 := { stood := { row := linkSessionsRow, standIns := [], harness := (true, "68e8713da016869f592e38fdb60adb0e39fd4324369dff249597fc88493487c4"), looks := false }, kinds := [], alts := [], laidByText := true, laidKinds := [.data], laidTests := true, laidLooks := .later }
def LinkSessionsCardSaid : Prop := Claim7.holds Tryd.pinned (.plain (OpenSpec.ofChange linkSessionsSpec)) linkSessionsCard

/-- THE TIED CARD OF 'tilllaw14.LinkEnd'. -/
def linkEndCard : Claim7 := { stood := { row := linkEndRow, standIns := [], harness := (true, "68e8713da016869f592e38fdb60adb0e39fd4324369dff249597fc88493487c4"), looks := false }, kinds := [], alts := [], laidByText := true, laidKinds := [.data], laidTests := true, laidLooks := .later }
def LinkEndCardSaid : Prop := Claim7.holds Tryd.pinned (.plain (OpenSpec.ofChange linkEndSpec)) linkEndCard

/-- THE SECOND FORM's CARD OF 'tilllaw1.CodeReads'. -/
def codeReadsUptoCard : Claim7 := { stood := { row := codeReadsUptoRow, standIns := [], harness := (true, "68e8713da016869f592e38fdb60adb0e39fd4324369dff249597fc88493487c4"), looks := false }, kinds := [], alts := [], laidByText := true, laidKinds := [.data], laidTests := true, laidLooks := .later }
def CodeReadsUptoCardSaid : Prop := Claim7.holds Tryd.pinned (.plain (OpenSpec.upto codeReadsSpec)) codeReadsUptoCard

/-- THE SECOND FORM's CARD OF 'tilllaw1.CodeStops'. -/
def codeStopsUptoCard : Claim7 := { stood := { row := codeStopsUptoRow, standIns := [], harness := (true, "68e8713da016869f592e38fdb60adb0e39fd4324369dff249597fc88493487c4"), looks := false }, kinds := [], alts := [], laidByText := true, laidKinds := [.data], laidTests := true, laidLooks := .later }
def CodeStopsUptoCardSaid : Prop := Claim7.holds Tryd.pinned (.plain (OpenSpec.upto codeStopsSpec)) codeStopsUptoCard

/-- THE SECOND FORM's CARD OF 'tilllaw1.CodePlace'. -/
def codePlaceUptoCard : Claim7 := { stood := { row := codePlaceUptoRow, standIns := [], harness := (true, "68e8713da016869f592e38fdb60adb0e39fd4324369dff249597fc88493487c4"), looks := false }, kinds := [], alts := [], laidByText := true, laidKinds := [.data], laidTests := true, laidLooks := .later }
def CodePlaceUptoCardSaid : Prop := Claim7.holds Tryd.pinned (.plain (OpenSpec.upto codePlaceSpec)) codePlaceUptoCard

/-- THE SECOND FORM's CARD OF 'tilllaw1.CodeTurns'. -/
def codeTurnsUptoCard : Claim7 := { stood := { row := codeTurnsUptoRow, standIns := [], harness := (true, "68e8713da016869f592e38fdb60adb0e39fd4324369dff249597fc88493487c4"), looks := false }, kinds := [], alts := [], laidByText := true, laidKinds := [.data], laidTests := true, laidLooks := .later }
def CodeTurnsUptoCardSaid : Prop := Claim7.holds Tryd.pinned (.plain (OpenSpec.upto codeTurnsSpec)) codeTurnsUptoCard

/-- THE SECOND FORM's CARD OF 'tilllaw1.CodeOneForm'. -/
def codeOneFormUptoCard : Claim7 := { stood := { row := codeOneFormUptoRow, standIns := [], harness := (true, "68e8713da016869f592e38fdb60adb0e39fd4324369dff249597fc88493487c4"), looks := false }, kinds := [], alts := [], laidByText := true, laidKinds := [.data], laidTests := true, laidLooks := .later }
def CodeOneFormUptoCardSaid : Prop := Claim7.holds Tryd.pinned (.plain (OpenSpec.upto codeOneFormSpec)) codeOneFormUptoCard

/-- THE SECOND FORM's CARD OF 'tilllaw14.LinkTurned'. -/
def linkTurnedUptoCard : Claim7 := { stood := { row := linkTurnedUptoRow, standIns := [], harness := (true, "68e8713da016869f592e38fdb60adb0e39fd4324369dff249597fc88493487c4"), looks := false }, kinds := [], alts := [], laidByText := true, laidKinds := [.data], laidTests := true, laidLooks := .later }
def LinkTurnedUptoCardSaid : Prop := Claim7.holds Tryd.pinned (.plain (OpenSpec.upto linkTurnedSpec)) linkTurnedUptoCard

/-- THE SECOND FORM's CARD OF 'tilllaw14.LinkQuiet'. -/
def linkQuietUptoCard : Claim7 := { stood := { row := linkQuietUptoRow, standIns := [], harness := (true, "68e8713da016869f592e38fdb60adb0e39fd4324369dff249597fc88493487c4"), looks := false }, kinds := [], alts := [], laidByText := true, laidKinds := [.data], laidTests := true, laidLooks := .later }
def LinkQuietUptoCardSaid : Prop := Claim7.holds Tryd.pinned (.plain (OpenSpec.upto linkQuietSpec)) linkQuietUptoCard

/-- THE SECOND FORM's CARD OF 'tilllaw14.LinkMany'. -/
def linkManyUptoCard : Claim7 := { stood := { row := linkManyUptoRow, standIns := [], harness := (true, "68e8713da016869f592e38fdb60adb0e39fd4324369dff249597fc88493487c4"), looks := false }, kinds := [], alts := [], laidByText := true, laidKinds := [.data], laidTests := true, laidLooks := .later }
def LinkManyUptoCardSaid : Prop := Claim7.holds Tryd.pinned (.plain (OpenSpec.upto linkManySpec)) linkManyUptoCard

/-- THE SECOND FORM's CARD OF 'tilllaw14.LinkSessions'. -/
def linkSessionsUptoCard : Claim7 := { stood := { row := linkSessionsUptoRow, standIns := [], harness := (true, "68e8713da016869f592e38fdb60adb0e39fd4324369dff249597fc88493487c4"), looks := false }, kinds := [], alts := [], laidByText := true, laidKinds := [.data], laidTests := true, laidLooks := .later }
def LinkSessionsUptoCardSaid : Prop := Claim7.holds Tryd.pinned (.plain (OpenSpec.upto linkSessionsSpec)) linkSessionsUptoCard

/-- THE SECOND FORM's CARD OF 'tilllaw14.LinkEnd'. -/
def linkEndUptoCard : Claim7 := { stood := { row := linkEndUptoRow, standIns := [], harness := (true, "68e8713da016869f592e38fdb60adb0e39fd4324369dff249597fc88493487c4"), looks := false }, kinds := [], alts := [], laidByText := true, laidKinds := [.data], laidTests := true, laidLooks := .later }
def LinkEndUptoCardSaid : Prop := Claim7.holds Tryd.pinned (.plain (OpenSpec.upto linkEndSpec)) linkEndUptoCard
end Rows
end Go.Proofs.YtoeiaimoppmjdaaDoor
