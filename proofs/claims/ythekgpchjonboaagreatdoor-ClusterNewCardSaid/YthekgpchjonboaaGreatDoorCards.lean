/-
  DERIVED. GIVEN WITH THE SEED: THE CARDS: each row of YthekgpchjonboaaGreatDoorRows.lean that lists a variable, with what it lists TIED to the program's text (the seventh form; the later family's looks); each row that meets fmt, with fmt's text TOLD by the authors' own Lean function (tested against real Go, not proved from fmt's source: count such statements apart). THE CARD IS WHAT COUNTS. Prove the row's statement (the work); the ties are given (YthekgpchjonboaaGreatDoorTie.lean); close each card by the builder's one call (the guide's Derived/Test/ToyasCard.lean, 'card_holds'). Laid BY PROGRAM, IN A SANDBOX (cutbox-door.mjs). By AI agents, Wed Nov 11 2026. No macro, syntax, notation, axiom, sorry.
-/
import Derived.Test.YthekgpchjonboaaGreatDoorRows
import GoSem.ClaimSeven
namespace Go.Proofs.YthekgpchjonboaaGreatDoor
namespace Rows

/-- THE TIED CARD OF 'barrowlaw19.ClusterNew'. -/
def clusterNewCard : Claim7 := { stood := { row := clusterNewRow, standIns := [], harness := (true, "4e8fc5c0bcb66f685f5e6fa645a82a32f32c70e736a764ae5a1a3a9af3f86a23"), looks := true }, kinds := [], alts := [], laidByText := true, laidKinds := [.data, .sentinel, .sentinel, .sentinel, .sentinel, .sentinel, .sentinel, .sentinel, .sentinel, .sentinel, .sentinel, .sentinel, .sentinel, .sentinel, .sentinel, .pinned], laidTests := true, laidLooks := .later }
def ClusterNewCardSaid : Prop := Claim7.holds Tryz.pinned (.plain (OpenSpec.ofChange clusterNewSpec)) clusterNewCard

/-- THE SECOND FORM's CARD OF 'barrowlaw19.ClusterNew'. -/
def clusterNewUptoCard : Claim7 := { stood := { row := clusterNewUptoRow, standIns := [], harness := (true, "4e8fc5c0bcb66f685f5e6fa645a82a32f32c70e736a764ae5a1a3a9af3f86a23"), looks := true }, kinds := [], alts := [], laidByText := true, laidKinds := [.data, .sentinel, .sentinel, .sentinel, .sentinel, .sentinel, .sentinel, .sentinel, .sentinel, .sentinel, .sentinel, .sentinel, .sentinel, .sentinel, .sentinel, .pinned], laidTests := true, laidLooks := .later }
def ClusterNewUptoCardSaid : Prop := Claim7.holds Tryz.pinned (.plain (OpenSpec.upto clusterNewSpec)) clusterNewUptoCard
end Rows
end Go.Proofs.YthekgpchjonboaaGreatDoor
