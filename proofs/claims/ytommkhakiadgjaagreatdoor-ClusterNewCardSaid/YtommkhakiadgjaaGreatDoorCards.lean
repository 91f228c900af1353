/-
  DERIVED. GIVEN WITH THE SEED: THE CARDS: each row of YtommkhakiadgjaaGreatDoorRows.lean that lists a variable, with what it lists TIED to the program's text (the seventh form; the later family's looks); each row that meets fmt, with fmt's text TOLD by the authors' own Lean function (tested against real Go, not proved from fmt's source: count such statements apart). THE CARD IS WHAT COUNTS. Prove the row's statement (the work); the ties are given (YtommkhakiadgjaaGreatDoorTie.lean); close each card by the builder's one call (the guide's Derived/Test/ToyasCard.lean, 'card_holds'). Laid BY PROGRAM, IN A SANDBOX (cutbox-door.mjs). By AI agents, Wed Nov 11 2026. No macro, syntax, notation, axiom, sorry.
-/
import Derived.Test.YtommkhakiadgjaaGreatDoorRows
import GoSem.ClaimSeven
namespace Go.Proofs.YtommkhakiadgjaaGreatDoor
namespace Rows

/-- THE TIED CARD OF 'maundlaw33.ClusterNew'. -/
def clusterNewCard : Claim7 := { stood := { row := clusterNewRow, standIns := [], harness := (true, "f57009181cdfa26b1a45c2b887cc16c60c183cdae861b819e8f4b3282bdc18a2"), looks := true }, kinds := [], alts := [], laidByText := true, laidKinds := [.data, .data, .data, .sentinel, .sentinel], laidTests := true, laidLooks := .later }
def ClusterNewCardSaid : Prop := Claim7.holds Tryz.pinned (.plain (OpenSpec.ofChange clusterNewSpec)) clusterNewCard

/-- THE TIED CARD OF 'maundlaw33.ClusterApart'. -/
def clusterApartCard : Claim7 := { stood := { row := clusterApartRow, standIns := [], harness := (true, "f57009181cdfa26b1a45c2b887cc16c60c183cdae861b819e8f4b3282bdc18a2"), looks := true }, kinds := [], alts := [], laidByText := true, laidKinds := [.data, .data, .data, .sentinel, .sentinel], laidTests := true, laidLooks := .later }
def ClusterApartCardSaid : Prop := Claim7.holds Tryz.pinned (.plain (OpenSpec.ofChange clusterApartSpec)) clusterApartCard

/-- THE TIED CARD OF 'maundlaw33.ClusterAgain'. -/
def clusterAgainCard : Claim7 := { stood := { row := clusterAgainRow, standIns := [], harness := (true, "f57009181cdfa26b1a45c2b887cc16c60c183cdae861b819e8f4b3282bdc18a2"), looks := true }, kinds := [], alts := [], laidByText := true, laidKinds := [.data, .data, .data, .sentinel, .sentinel], laidTests := true, laidLooks := .later }
def ClusterAgainCardSaid : Prop := Claim7.holds Tryz.pinned (.plain (OpenSpec.ofChange clusterAgainSpec)) clusterAgainCard

/-- THE SECOND FORM's CARD OF 'maundlaw33.ClusterNew'. -/
def clusterNewUptoCard : Claim7 := { stood := { row := clusterNewUptoRow, standIns := [], harness := (true, "f57009181cdfa26b1a45c2b887cc16c60c183cdae861b819e8f4b3282bdc18a2"), looks := true }, kinds := [], alts := [], laidByText := true, laidKinds := [.data, .data, .data, .sentinel, .sentinel], laidTests := true, laidLooks := .later }
def ClusterNewUptoCardSaid : Prop := Claim7.holds Tryz.pinned (.plain (OpenSpec.upto clusterNewSpec)) clusterNewUptoCard

/-- THE SECOND FORM's CARD OF 'maundlaw33.ClusterApart'. -/
def clusterApartUptoCard : Claim7 := { stood := { row := clusterApartUptoRow, standIns := [], harness := (true, "f57009181cdfa26b1a45c2b887cc16c60c183cdae861b819e8f4b3282bdc18a2"), looks := true }, kinds := [], alts := [], laidByText := true, laidKinds := [.data, .data, .data, .sentinel, .sentinel], laidTests := true, laidLooks := .later }
def ClusterApartUptoCardSaid : Prop := Claim7.holds Tryz.pinned (.plain (OpenSpec.upto clusterApartSpec)) clusterApartUptoCard

/-- THE SECOND FORM's CARD OF 'maundlaw33.ClusterAgain'. -/
def clusterAgainUptoCard : Claim7 := { stood := { row := clusterAgainUptoRow, standIns := [], harness := (true, "f57009181cdfa26b1a45c2b887cc16c60c183cdae861b819e8f4b3282bdc18a2"), looks := true }, kinds := [], alts := [], laidByText := true, laidKinds := [.data, .data, .data, .sentinel, .sentinel], laidTests := true, laidLooks := .later }
def ClusterAgainUptoCardSaid : Prop := Claim7.holds Tryz.pinned (.plain (OpenSpec.upto clusterAgainSpec)) clusterAgainUptoCard
end Rows
end Go.Proofs.YtommkhakiadgjaaGreatDoor
