/-
  DERIVED. GIVEN WITH THE SEED: THE CARDS: each row of YtofijhejpgjopaaGreatDoorRows.lean that lists a variable, with what it lists TIED to the program's text (the seventh form; the later family's looks); each row that meets fmt, with fmt's text TOLD by the authors' own Lean function (tested against real Go, not proved from fmt's source: count such statements apart). THE CARD IS WHAT COUNTS. Prove the row's statement (the work); the ties are given (YtofijhejpgjopaaGreatDoorTie.lean); close each card by the builder's one call (the guide's Derived/Test/ToyasCard.lean, 'card_holds'). Laid BY PROGRAM, IN A SANDBOX (cutbox-door.mjs). By AI agents, Wed Nov 11 2026. No macro, syntax, notation, axiom, sorry.
-/
import Derived.Test.YtofijhejpgjopaaGreatDoorRows
import GoSem.ClaimSeven
namespace Go.Proofs.YtofijhejpgjopaaGreatDoor
namespace Rows

/-- THE TIED CARD OF 'barrowlaw20.AuditCausal'. -/
def auditCausalCard : Claim7 := { stood := { row := auditCausalRow, standIns := [], harness := (true, "f97cdd62f90d3b4c2503c01b42e061b2916d3d4fa39402ac1e727483962aab27"), looks := true }, kinds := [], alts := [], laidByText := true, laidKinds := [.sentinel, .sentinel, .sentinel, .sentinel, .sentinel, .sentinel, .sentinel, .sentinel, .sentinel, .sentinel, .sentinel, .sentinel, .sentinel, .sentinel], laidTests := true, laidLooks := .later }
def AuditCausalCardSaid : Prop := Claim7.holds Tryz.pinned (.plain (OpenSpec.ofChange auditCausalSpec)) auditCausalCard

/-- THE TIED CARD OF 'barrowlaw20.AuditAuthors'. -/
def auditAuthorsCard : Claim7 := { stood := { row := auditAuthorsRow, standIns := [], harness := (true, "f97cdd62f90d3b4c2503c01b42e061b2916d3d4fa39402ac1e727483962aab27"), looks := true }, kinds := [], alts := [], laidByText := true, laidKinds := [.sentinel, .sentinel, .sentinel, .sentinel, .sentinel, .sentinel, .sentinel, .sentinel, .sentinel, .sentinel, .sentinel, .sentinel, .sentinel, .sentinel], laidTests := true, laidLooks := .later }
def AuditAuthorsCardSaid : Prop := Claim7.holds Tryz.pinned (.plain (OpenSpec.ofChange auditAuthorsSpec)) auditAuthorsCard

/-- THE TIED CARD OF 'barrowlaw20.AuditOrdered'. -/
def auditOrderedCard : Claim7 := { stood := { row := auditOrderedRow, standIns := [], harness := (true, "f97cdd62f90d3b4c2503c01b42e061b2916d3d4fa39402ac1e727483962aab27"), looks := true }, kinds := [], alts := [], laidByText := true, laidKinds := [.sentinel, .sentinel, .sentinel, .sentinel, .sentinel, .sentinel, .sentinel, .sentinel, .sentinel, .sentinel, .sentinel, .sentinel, .sentinel, .sentinel], laidTests := true, laidLooks := .later }
def AuditOrderedCardSaid : Prop := Claim7.holds Tryz.pinned (.plain (OpenSpec.ofChange auditOrderedSpec)) auditOrderedCard

/-- THE SECOND FORM's CARD OF 'barrowlaw20.AuditCausal'. -/
def auditCausalUptoCard : Claim7 := { stood := { row := auditCausalUptoRow, standIns := [], harness := (true, "f97cdd62f90d3b4c2503c01b42e061b2916d3d4fa39402ac1e727483962aab27"), looks := true }, kinds := [], alts := [], laidByText := true, laidKinds := [.sentinel, .sentinel, .sentinel, .sentinel, .sentinel, .sentinel, .sentinel, .sentinel, .sentinel, .sentinel, .sentinel, .sentinel, .sentinel, .sentinel], laidTests := true, laidLooks := .later }
def AuditCausalUptoCardSaid : Prop := Claim7.holds Tryz.pinned (.plain (OpenSpec.upto auditCausalSpec)) auditCausalUptoCard

/-- THE SECOND FORM's CARD OF 'barrowlaw20.AuditAuthors'. -/
def auditAuthorsUptoCard : Claim7 := { stood := { row := auditAuthorsUptoRow, standIns := [], harness := (true, "f97cdd62f90d3b4c2503c01b42e061b2916d3d4fa39402ac1e727483962aab27"), looks := true }, kinds := [], alts := [], laidByText := true, laidKinds := [.sentinel, .sentinel, .sentinel, .sentinel, .sentinel, .sentinel, .sentinel, .sentinel, .sentinel, .sentinel, .sentinel, .sentinel, .sentinel, .sentinel], laidTests := true, laidLooks := .later }
def AuditAuthorsUptoCardSaid : Prop := Claim7.holds Tryz.pinned (.plain (OpenSpec.upto auditAuthorsSpec)) auditAuthorsUptoCard

/-- THE SECOND FORM's CARD OF 'barrowlaw20.AuditOrdered'. -/
def auditOrderedUptoCard : Claim7 := { stood := { row := auditOrderedUptoRow, standIns := [], harness := (true, "f97cdd62f90d3b4c2503c01b42e061b2916d3d4fa39402ac1e727483962aab27"), looks := true }, kinds := [], alts := [], laidByText := true, laidKinds := [.sentinel, .sentinel, .sentinel, .sentinel, .sentinel, .sentinel, .sentinel, .sentinel, .sentinel, .sentinel, .sentinel, .sentinel, .sentinel, .sentinel], laidTests := true, laidLooks := .later }
def AuditOrderedUptoCardSaid : Prop := Claim7.holds Tryz.pinned (.plain (OpenSpec.upto auditOrderedSpec)) auditOrderedUptoCard
end Rows
end Go.Proofs.YtofijhejpgjopaaGreatDoor
