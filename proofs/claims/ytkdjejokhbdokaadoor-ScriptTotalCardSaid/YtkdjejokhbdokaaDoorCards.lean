/-
  DERIVED. GIVEN WITH THE SEED: THE CARDS: each row of YtkdjejokhbdokaaDoorRows.lean that lists a variable, with what it lists TIED to the program's text (the seventh form; the later family's looks); each row that meets fmt, with fmt's text TOLD by the authors' own Lean function (tested against real Go, not proved from fmt's source: count such statements apart). THE CARD IS WHAT COUNTS. Prove the row's statement (the work); the ties are given (YtkdjejokhbdokaaDoorTie.lean); close each card by the builder's one call (the guide's Derived/Test/ToyasCard.lean, 'card_holds'). Laid BY PROGRAM, IN A SANDBOX (cutbox-door.mjs). By AI agents, Wed Nov 11 2026. No macro, syntax, notation, axiom, sorry.
-/
import Derived.Test.YtkdjejokhbdokaaDoorRows
import GoSem.ClaimSeven
namespace Go.Proofs.YtkdjejokhbdokaaDoor
namespace Rows

/-- THE TIED CARD OF 'barrowlaw18.ScriptTotal'. -/
def scriptTotalCard : Claim7 := { stood := { row := scriptTotalRow, standIns := [], harness := (true, "e8d7c986f5661d9aa0356d03d07f304dd682532a3368c3413d16e95f65a32422"), looks := false }, kinds := [], alts := [], laidByText := true, laidKinds := [.data, .data, .data], laidTests := true, laidLooks := .later }
def ScriptTotalCardSaid : Prop := Claim7.holds Tryd.pinned (.plain (OpenSpec.ofChange scriptTotalSpec)) scriptTotalCard

/-- THE SECOND FORM's CARD OF 'barrowlaw18.ScriptTotal'. -/
def scriptTotalUptoCard : Claim7 := { stood := { row := scriptTotalUptoRow, standIns := [], harness := (true, "e8d7c986f5661d9aa0356d03d07f304dd682532a3368c3413d16e95f65a32422"), looks := false }, kinds := [], alts := [], laidByText := true, laidKinds := [.data, .data, .data], laidTests := true, laidLooks := .later }
def ScriptTotalUptoCardSaid : Prop := Claim7.holds Tryd.pinned (.plain (OpenSpec.upto scriptTotalSpec)) scriptTotalUptoCard
end Rows
end Go.Proofs.YtkdjejokhbdokaaDoor
