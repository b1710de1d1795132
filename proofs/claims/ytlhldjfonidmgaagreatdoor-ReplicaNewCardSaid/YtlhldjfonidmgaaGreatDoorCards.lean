/-
  DERIVED. GIVEN WITH THE SEED: THE CARDS: each row of YtlhldjfonidmgaaGreatDoorRows.lean that lists a variable, with what it lists TIED to the program's text (the seventh form; the later family's looks); each row that meets fmt, with fmt's text TOLD by the authors' own Lean function (tested against real Go, not proved from fmt's source: count such statements apart). THE CARD IS WHAT COUNTS. Prove the row's statement (the work); the ties are given (YtlhldjfonidmgaaGreatDoorTie.lean); close each card by the builder's one call (the guide's Derived/Test/ToyasCard.lean, 'card_holds'). Laid BY PROGRAM, IN A SANDBOX (cutbox-door.mjs). By AI agents, Wed Nov 11 2026. No macro, syntax, notation, axiom, sorry.
-/
import Derived.Test.YtlhldjfonidmgaaGreatDoorRows
import GoSem.ClaimSeven
namespace Go.Proofs.YtlhldjfonidmgaaGreatDoor
namespace Rows

/-- THE TIED CARD OF 'barrowlaw16.ReplicaNew'. -/
def replicaNewCard : Claim7 := { stood := { row := replicaNewRow, standIns := [], harness := (true, "a1bbeb505e88b04c17eb5913a5c50858e71e8f304060241d33e12aab48ac219b"), looks := true }, kinds := [], alts := [], laidByText := true, laidKinds := [.data, .sentinel, .sentinel, .sentinel, .sentinel, .sentinel, .sentinel, .sentinel, .sentinel, .sentinel, .sentinel, .sentinel, .sentinel, .sentinel, .sentinel, .pinned], laidTests := true, laidLooks := .later }
def ReplicaNewCardSaid : Prop := Claim7.holds Tryz.pinned (.plain (OpenSpec.ofChange replicaNewSpec)) replicaNewCard

/-- THE TIED CARD OF 'barrowlaw17.ImageSum'. -/
def imageSumCard : Claim7 := { stood := { row := imageSumRow, standIns := [], harness := (true, "a1bbeb505e88b04c17eb5913a5c50858e71e8f304060241d33e12aab48ac219b"), looks := true }, kinds := [], alts := [], laidByText := true, laidKinds := [.data, .sentinel, .sentinel, .sentinel, .sentinel, .sentinel, .sentinel, .sentinel, .sentinel, .sentinel, .pinned], laidTests := true, laidLooks := .later }
def ImageSumCardSaid : Prop := Claim7.holds Tryz.pinned (.plain (OpenSpec.ofChange imageSumSpec)) imageSumCard

/-- THE TIED CARD OF 'barrowlaw17.ImageParts'. -/
def imagePartsCard : Claim7 := { stood := { row := imagePartsRow, standIns := [], harness := (true, "a1bbeb505e88b04c17eb5913a5c50858e71e8f304060241d33e12aab48ac219b"), looks := true }, kinds := [], alts := [], laidByText := true, laidKinds := [.data, .sentinel, .sentinel, .sentinel, .sentinel, .sentinel, .sentinel, .sentinel, .sentinel, .sentinel, .sentinel, .sentinel, .sentinel, .sentinel, .sentinel, .pinned], laidTests := true, laidLooks := .later }
def ImagePartsCardSaid : Prop := Claim7.holds Tryz.pinned (.plain (OpenSpec.ofChange imagePartsSpec)) imagePartsCard

/-- THE SECOND FORM's CARD OF 'barrowlaw16.ReplicaNew'. -/
def replicaNewUptoCard : Claim7 := { stood := { row := replicaNewUptoRow, standIns := [], harness := (true, "a1bbeb505e88b04c17eb5913a5c50858e71e8f304060241d33e12aab48ac219b"), looks := true }, kinds := [], alts := [], laidByText := true, laidKinds := [.data, .sentinel, .sentinel, .sentinel, .sentinel, .sentinel, .sentinel, .sentinel, .sentinel, .sentinel, .sentinel, .sentinel, .sentinel, .sentinel, .sentinel, .pinned], laidTests := true, laidLooks := .later }
def ReplicaNewUptoCardSaid : Prop := Claim7.holds Tryz.pinned (.plain (OpenSpec.upto replicaNewSpec)) replicaNewUptoCard

/-- THE SECOND FORM's CARD OF 'barrowlaw17.ImageSum'. -/
def imageSumUptoCard : Claim7 := { stood := { row := imageSumUptoRow, standIns := [], harness := (true, "a1bbeb505e88b04c17eb5913a5c50858e71e8f304060241d33e12aab48ac219b"), looks := true }, kinds := [], alts := [], laidByText := true, laidKinds := [.data, .sentinel, .sentinel, .sentinel, .sentinel, .sentinel, .sentinel, .sentinel, .sentinel, .sentinel, .pinned], laidTests := true, laidLooks := .later }
def ImageSumUptoCardSaid : Prop := Claim7.holds Tryz.pinned (.plain (OpenSpec.upto imageSumSpec)) imageSumUptoCard

/-- THE SECOND FORM's CARD OF 'barrowlaw17.ImageParts'. -/
def imagePartsUptoCard : Claim7 := { stood := { row := imagePartsUptoRow, standIns := [], harness := (true, "a1bbeb505e88b04c17eb5913a5c50858e71e8f304060241d33e12aab48ac219b"), looks := true }, kinds := [], alts := [], laidByText := true, laidKinds := [.data, .sentinel, .sentinel, .sentinel, .sentinel, .sentinel, .sentinel, .sentinel, .sentinel, .sentinel, .sentinel, .sentinel, .sentinel, .sentinel, .sentinel, .pinned], laidTests := true, laidLooks := .later }
def ImagePartsUptoCardSaid : Prop := Claim7.holds Tryz.pinned (.plain (OpenSpec.upto imagePartsSpec)) imagePartsUptoCard
end Rows
end Go.Proofs.YtlhldjfonidmgaaGreatDoor
