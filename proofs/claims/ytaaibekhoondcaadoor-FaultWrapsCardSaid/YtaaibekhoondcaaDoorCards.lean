/-
  DERIVED. GIVEN WITH THE SEED: THE CARDS: each row of YtaaibekhoondcaaDoorRows.lean that lists a variable, with what it lists TIED to the program's text (the seventh form; the later family's looks); each row that meets fmt, with fmt's text TOLD by the authors' own Lean function (tested against real Go, not proved from fmt's source: count such statements apart). THE CARD IS WHAT COUNTS. Prove the row's statement (the work); the ties are given (YtaaibekhoondcaaDoorTie.lean); close each card by the builder's one call (the guide's Derived/Test/ToyasCard.lean, 'card_holds'). Laid BY PROGRAM, IN A SANDBOX (cutbox-door.mjs). By AI agents, Wed Nov 11 2026. No macro, syntax, notation, axiom, sorry.
-/
import Derived.Test.YtaaibekhoondcaaDoorRows
import GoSem.ClaimSeven
namespace Go.Proofs.YtaaibekhoondcaaDoor
namespace Rows

/-- THE TIED CARD OF 'barrowlaw03.ClockNames'. -/
def clockNamesCard : Claim7 := { stood := { row := clockNamesRow, standIns := [], harness := (true, "524d9633ffd933071969303651f95d473dbe406620ef281c324682cabcb7af2a"), looks := true }, kinds := [], alts := [], laidByText := true, laidKinds := [.sentinel], laidTests := true, laidLooks := .later }
def ClockNamesCardSaid : Prop := Claim7.holds Tryd.pinned (.plain (OpenSpec.ofChange clockNamesSpec)) clockNamesCard

/-- THE TIED CARD OF 'barrowlaw03.ClockReady'. -/
def clockReadyCard : Claim7 := { stood := { row := clockReadyRow, standIns := [], harness := (true, "524d9633ffd933071969303651f95d473dbe406620ef281c324682cabcb7af2a"), looks := true }, kinds := [], alts := [], laidByText := true, laidKinds := [.sentinel], laidTests := true, laidLooks := .later }
def ClockReadyCardSaid : Prop := Claim7.holds Tryd.pinned (.plain (OpenSpec.ofChange clockReadySpec)) clockReadyCard

/-- THE TIED CARD OF 'barrowlaw03.ClockExact'. -/
def clockExactCard : Claim7 := { stood := { row := clockExactRow, standIns := [], harness := (true, "524d9633ffd933071969303651f95d473dbe406620ef281c324682cabcb7af2a"), looks := true }, kinds := [], alts := [], laidByText := true, laidKinds := [.sentinel], laidTests := true, laidLooks := .later }
def ClockExactCardSaid : Prop := Claim7.holds Tryd.pinned (.plain (OpenSpec.ofChange clockExactSpec)) clockExactCard

/-- THE TIED CARD OF 'barrowlaw03.ClockOrder'. -/
def clockOrderCard : Claim7 := { stood := { row := clockOrderRow, standIns := [], harness := (true, "524d9633ffd933071969303651f95d473dbe406620ef281c324682cabcb7af2a"), looks := true }, kinds := [], alts := [], laidByText := true, laidKinds := [.sentinel], laidTests := true, laidLooks := .later }
def ClockOrderCardSaid : Prop := Claim7.holds Tryd.pinned (.plain (OpenSpec.ofChange clockOrderSpec)) clockOrderCard

/-- THE TIED CARD OF 'barrowlaw03.ClockLists'. -/
def clockListsCard : Claim7 := { stood := { row := clockListsRow, standIns := [], harness := (true, "524d9633ffd933071969303651f95d473dbe406620ef281c324682cabcb7af2a"), looks := true }, kinds := [], alts := [], laidByText := true, laidKinds := [.sentinel], laidTests := true, laidLooks := .later }
def ClockListsCardSaid : Prop := Claim7.holds Tryd.pinned (.plain (OpenSpec.ofChange clockListsSpec)) clockListsCard

/-- THE TIED CARD OF 'barrowlaw03.ClockLag'. -/
def clockLagCard : Claim7 := { stood := { row := clockLagRow, standIns := [], harness := (true, "524d9633ffd933071969303651f95d473dbe406620ef281c324682cabcb7af2a"), looks := true }, kinds := [], alts := [], laidByText := true, laidKinds := [.sentinel], laidTests := true, laidLooks := .later }
def ClockLagCardSaid : Prop := Claim7.holds Tryd.pinned (.plain (OpenSpec.ofChange clockLagSpec)) clockLagCard

/-- THE TIED CARD OF 'barrowlaw03.ClockTicks'. -/
def clockTicksCard : Claim7 := { stood := { row := clockTicksRow, standIns := [], harness := (true, "524d9633ffd933071969303651f95d473dbe406620ef281c324682cabcb7af2a"), looks := true }, kinds := [], alts := [], laidByText := true, laidKinds := [.sentinel, .sentinel, .sentinel, .sentinel, .sentinel, .sentinel, .sentinel, .sentinel, .sentinel, .sentinel, .sentinel, .sentinel, .sentinel, .sentinel], laidTests := true, laidLooks := .later }
def ClockTicksCardSaid : Prop := Claim7.holds Tryd.pinned (.plain (OpenSpec.ofChange clockTicksSpec)) clockTicksCard

/-- THE TIED CARD OF 'barrowlaw03.ClockText'. -/
def clockTextCard : Claim7 := { stood := { row := clockTextRow, standIns := [], harness := (true, "524d9633ffd933071969303651f95d473dbe406620ef281c324682cabcb7af2a"), looks := true }, kinds := [], alts := [], laidByText := true, laidKinds := [.data, .data, .data, .sentinel, .sentinel], laidTests := true, laidLooks := .later }
def ClockTextCardSaid : Prop := Claim7.holds Tryd.pinned (.plain (OpenSpec.ofChange clockTextSpec)) clockTextCard

/-- THE TIED CARD OF 'barrowlaw01.FaultIs'. -/
def faultIsCard : Claim7 := { stood := { row := faultIsRow, standIns := [], harness := (true, "524d9633ffd933071969303651f95d473dbe406620ef281c324682cabcb7af2a"), looks := true }, kinds := [], alts := [], laidByText := true, laidKinds := [.sentinel, .sentinel, .sentinel, .sentinel, .sentinel, .sentinel, .sentinel, .sentinel, .sentinel, .sentinel, .sentinel, .sentinel, .sentinel, .sentinel], laidTests := true, laidLooks := .later }
def FaultIsCardSaid : Prop := Claim7.holds Tryd.pinned (.plain (OpenSpec.ofChange faultIsSpec)) faultIsCard

/-- THE TIED CARD OF 'barrowlaw03.ClockParse'. -/
def clockParseCard : Claim7 := { stood := { row := clockParseRow, standIns := [], harness := (true, "524d9633ffd933071969303651f95d473dbe406620ef281c324682cabcb7af2a"), looks := true }, kinds := [], alts := [], laidByText := true, laidKinds := [.data, .data, .data, .sentinel, .sentinel, .sentinel, .sentinel, .sentinel, .sentinel, .sentinel, .sentinel, .sentinel, .sentinel, .sentinel, .sentinel, .sentinel, .sentinel], laidTests := true, laidLooks := .later }
def ClockParseCardSaid : Prop := Claim7.holds Tryd.pinned (.plain (OpenSpec.ofChange clockParseSpec)) clockParseCard

/-- THE TIED CARD OF 'barrowlaw01.FaultWraps'. -/
def faultWrapsCard : Claim7 := { stood := { row := faultWrapsRow, standIns := [], harness := (true, "524d9633ffd933071969303651f95d473dbe406620ef281c324682cabcb7af2a"), looks := true }, kinds := [], alts := [], laidByText := true, laidKinds := [.handle, .sentinel, .sentinel, .sentinel, .sentinel, .sentinel, .sentinel, .sentinel, .sentinel, .sentinel, .sentinel, .sentinel, .sentinel, .sentinel, .sentinel], laidTests := true, laidLooks := .later }
def FaultWrapsCardSaid : Prop := Claim7.holds Tryd.pinned (.plain (OpenSpec.ofChange faultWrapsSpec)) faultWrapsCard

/-- THE TIED CARD OF 'barrowlaw01.FaultExact'. -/
def faultExactCard : Claim7 := { stood := { row := faultExactRow, standIns := [], harness := (true, "524d9633ffd933071969303651f95d473dbe406620ef281c324682cabcb7af2a"), looks := true }, kinds := [], alts := [], laidByText := true, laidKinds := [.handle, .sentinel, .sentinel, .sentinel, .sentinel, .sentinel, .sentinel, .sentinel, .sentinel, .sentinel, .sentinel, .sentinel, .sentinel, .sentinel, .sentinel], laidTests := true, laidLooks := .later }
def FaultExactCardSaid : Prop := Claim7.holds Tryd.pinned (.plain (OpenSpec.ofChange faultExactSpec)) faultExactCard

/-- THE SECOND FORM's CARD OF 'barrowlaw03.ClockNames'. -/
def clockNamesUptoCard : Claim7 := { stood := { row := clockNamesUptoRow, standIns := [], harness := (true, "524d9633ffd933071969303651f95d473dbe406620ef281c324682cabcb7af2a"), looks := true }, kinds := [], alts := [], laidByText := true, laidKinds := [.sentinel], laidTests := true, laidLooks := .later }
def ClockNamesUptoCardSaid : Prop := Claim7.holds Tryd.pinned (.plain (OpenSpec.upto clockNamesSpec)) clockNamesUptoCard

/-- THE SECOND FORM's CARD OF 'barrowlaw03.ClockReady'. -/
def clockReadyUptoCard : Claim7 := { stood := { row := clockReadyUptoRow, standIns := [], harness := (true, "524d9633ffd933071969303651f95d473dbe406620ef281c324682cabcb7af2a"), looks := true }, kinds := [], alts := [], laidByText := true, laidKinds := [.sentinel], laidTests := true, laidLooks := .later }
def ClockReadyUptoCardSaid : Prop := Claim7.holds Tryd.pinned (.plain (OpenSpec.upto clockReadySpec)) clockReadyUptoCard

/-- THE SECOND FORM's CARD OF 'barrowlaw03.ClockExact'. -/
def clockExactUptoCard : Claim7 := { stood := { row := clockExactUptoRow, standIns := [], harness := (true, "524d9633ffd933071969303651f95d473dbe406620ef281c324682cabcb7af2a"), looks := true }, kinds := [], alts := [], laidByText := true, laidKinds := [.sentinel], laidTests := true, laidLooks := .later }
def ClockExactUptoCardSaid : Prop := Claim7.holds Tryd.pinned (.plain (OpenSpec.upto clockExactSpec)) clockExactUptoCard

/-- THE SECOND FORM's CARD OF 'barrowlaw03.ClockOrder'. -/
def clockOrderUptoCard : Claim7 := { stood := { row := clockOrderUptoRow, standIns := [], harness := (true, "524d9633ffd933071969303651f95d473dbe406620ef281c324682cabcb7af2a"), looks := true }, kinds := [], alts := [], laidByText := true, laidKinds := [.sentinel], laidTests := true, laidLooks := .later }
def ClockOrderUptoCardSaid : Prop := Claim7.holds Tryd.pinned (.plain (OpenSpec.upto clockOrderSpec)) clockOrderUptoCard

/-- THE SECOND FORM's CARD OF 'barrowlaw03.ClockLists'. -/
def clockListsUptoCard : Claim7 := { stood := { row := clockListsUptoRow, standIns := [], harness := (true, "524d9633ffd933071969303651f95d473dbe406620ef281c324682cabcb7af2a"), looks := true }, kinds := [], alts := [], laidByText := true, laidKinds := [.sentinel], laidTests := true, laidLooks := .later }
def ClockListsUptoCardSaid : Prop := Claim7.holds Tryd.pinned (.plain (OpenSpec.upto clockListsSpec)) clockListsUptoCard

/-- THE SECOND FORM's CARD OF 'barrowlaw03.ClockLag'. -/
def clockLagUptoCard : Claim7 := { stood := { row := clockLagUptoRow, standIns := [], harness := (true, "524d9633ffd933071969303651f95d473dbe406620ef281c324682cabcb7af2a"), looks := true }, kinds := [], alts := [], laidByText := true, laidKinds := [.sentinel], laidTests := true, laidLooks := .later }
def ClockLagUptoCardSaid : Prop := Claim7.holds Tryd.pinned (.plain (OpenSpec.upto clockLagSpec)) clockLagUptoCard

/-- THE SECOND FORM's CARD OF 'barrowlaw03.ClockTicks'. -/
def clockTicksUptoCard : Claim7 := { stood := { row := clockTicksUptoRow, standIns := [], harness := (true, "524d9633ffd933071969303651f95d473dbe406620ef281c324682cabcb7af2a"), looks := true }, kinds := [], alts := [], laidByText := true, laidKinds := [.sentinel, .sentinel, .sentinel, .sentinel, .sentinel, .sentinel, .sentinel, .sentinel, .sentinel, .sentinel, .sentinel, .sentinel, .sentinel, .sentinel], laidTests := true, laidLooks := .later }
def ClockTicksUptoCardSaid : Prop := Claim7.holds Tryd.pinned (.plain (OpenSpec.upto clockTicksSpec)) clockTicksUptoCard

/-- THE SECOND FORM's CARD OF 'barrowlaw03.ClockText'. -/
def clockTextUptoCard : Claim7 := { stood := { row := clockTextUptoRow, standIns := [], harness := (true, "524d9633ffd933071969303651f95d473dbe406620ef281c324682cabcb7af2a"), looks := true }, kinds := [], alts := [], laidByText := true, laidKinds := [.data, .data, .data, .sentinel, .sentinel], laidTests := true, laidLooks := .later }
def ClockTextUptoCardSaid : Prop := Claim7.holds Tryd.pinned (.plain (OpenSpec.upto clockTextSpec)) clockTextUptoCard

/-- THE SECOND FORM's CARD OF 'barrowlaw01.FaultIs'. -/
def faultIsUptoCard : Claim7 := { stood := { row := faultIsUptoRow, standIns := [], harness := (true, "524d9633ffd933071969303651f95d473dbe406620ef281c324682cabcb7af2a"), looks := true }, kinds := [], alts := [], laidByText := true, laidKinds := [.sentinel, .sentinel, .sentinel, .sentinel, .sentinel, .sentinel, .sentinel, .sentinel, .sentinel, .sentinel, .sentinel, .sentinel, .sentinel, .sentinel], laidTests := true, laidLooks := .later }
def FaultIsUptoCardSaid : Prop := Claim7.holds Tryd.pinned (.plain (OpenSpec.upto faultIsSpec)) faultIsUptoCard

/-- THE SECOND FORM's CARD OF 'barrowlaw03.ClockParse'. -/
def clockParseUptoCard : Claim7 := { stood := { row := clockParseUptoRow, standIns := [], harness := (true, "524d9633ffd933071969303651f95d473dbe406620ef281c324682cabcb7af2a"), looks := true }, kinds := [], alts := [], laidByText := true, laidKinds := [.data, .data, .data, .sentinel, .sentinel, .sentinel, .sentinel, .sentinel, .sentinel, .sentinel, .sentinel, .sentinel, .sentinel, .sentinel, .sentinel, .sentinel, .sentinel], laidTests := true, laidLooks := .later }
def ClockParseUptoCardSaid : Prop := Claim7.holds Tryd.pinned (.plain (OpenSpec.upto clockParseSpec)) clockParseUptoCard

/-- THE SECOND FORM's CARD OF 'barrowlaw01.FaultWraps'. -/
def faultWrapsUptoCard : Claim7 := { stood := { row := faultWrapsUptoRow, standIns := [], harness := (true, "524d9633ffd933071969303651f95d473dbe406620ef281c324682cabcb7af2a"), looks := true }, kinds := [], alts := [], laidByText := true, laidKinds := [.handle, .sentinel, .sentinel, .sentinel, .sentinel, .sentinel, .sentinel, .sentinel, .sentinel, .sentinel, .sentinel, .sentinel, .sentinel, .sentinel, .sentinel], laidTests := true, laidLooks := .later }
def FaultWrapsUptoCardSaid : Prop := Claim7.holds Tryd.pinned (.plain (OpenSpec.upto faultWrapsSpec)) faultWrapsUptoCard

/-- THE SECOND FORM's CARD OF 'barrowlaw01.FaultExact'. -/
def faultExactUptoCard : Claim7 := { stood := { row := faultExactUptoRow, standIns := [], harness := (true, "524d9633ffd933071969303651f95d473dbe406620ef281c324682cabcb7af2a"), looks := true }, kinds := [], alts := [], laidByText := true, laidKinds := [.handle, .sentinel, .sentinel, .sentinel, .sentinel, .sentinel, .sentinel, .sentinel, .sentinel, .sentinel, .sentinel, .sentinel, .sentinel, .sentinel, .sentinel], laidTests := true, laidLooks := .later }
def FaultExactUptoCardSaid : Prop := Claim7.holds Tryd.pinned (.plain (OpenSpec.upto faultExactSpec)) faultExactUptoCard
end Rows
end Go.Proofs.YtaaibekhoondcaaDoor
