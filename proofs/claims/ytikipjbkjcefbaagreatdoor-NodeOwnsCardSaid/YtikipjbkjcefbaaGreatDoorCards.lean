/-
  DERIVED. GIVEN WITH THE SEED: THE CARDS: each row of YtikipjbkjcefbaaGreatDoorRows.lean that lists a variable, with what it lists TIED to the program's text (the seventh form; the later family's looks); each row that meets fmt, with fmt's text TOLD by the authors' own Lean function (tested against real Go, not proved from fmt's source: count such statements apart). THE CARD IS WHAT COUNTS. Prove the row's statement (the work); the ties are given (YtikipjbkjcefbaaGreatDoorTie.lean); close each card by the builder's one call (the guide's Derived/Test/ToyasCard.lean, 'card_holds'). Laid BY PROGRAM, IN A SANDBOX (cutbox-door.mjs). By AI agents, Wed Nov 11 2026. No macro, syntax, notation, axiom, sorry.
-/
import Derived.Test.YtikipjbkjcefbaaGreatDoorRows
import GoSem.ClaimSeven
namespace Go.Proofs.YtikipjbkjcefbaaGreatDoor
namespace Rows

/-- THE TIED CARD OF 'maundlaw31.NodeRefuses'. -/
def nodeRefusesCard : Claim7 := { stood := { row := nodeRefusesRow, standIns := [], harness := (true, "913ce0c6ad0cf6257efffc9c9333f84abde7e894694dea340e26967f77a6898b"), looks := true }, kinds := [], alts := [], laidByText := true, laidKinds := [.data, .data, .data, .sentinel, .sentinel], laidTests := true, laidLooks := .later }
def NodeRefusesCardSaid : Prop := Claim7.holds Tryz.pinned (.plain (OpenSpec.ofChange nodeRefusesSpec)) nodeRefusesCard

/-- THE TIED CARD OF 'maundlaw31.NodePending'. -/
def nodePendingCard : Claim7 := { stood := { row := nodePendingRow, standIns := [], harness := (true, "913ce0c6ad0cf6257efffc9c9333f84abde7e894694dea340e26967f77a6898b"), looks := true }, kinds := [], alts := [], laidByText := true, laidKinds := [.data, .data, .data, .sentinel, .sentinel], laidTests := true, laidLooks := .later }
def NodePendingCardSaid : Prop := Claim7.holds Tryz.pinned (.plain (OpenSpec.ofChange nodePendingSpec)) nodePendingCard

/-- THE TIED CARD OF 'maundlaw31.NodeOwns'. -/
def nodeOwnsCard : Claim7 := { stood := { row := nodeOwnsRow, standIns := [], harness := (true, "913ce0c6ad0cf6257efffc9c9333f84abde7e894694dea340e26967f77a6898b"), looks := true }, kinds := [], alts := [], laidByText := true, laidKinds := [.data, .data, .data, .sentinel, .sentinel], laidTests := true, laidLooks := .later }
def NodeOwnsCardSaid : Prop := Claim7.holds Tryz.pinned (.plain (OpenSpec.ofChange nodeOwnsSpec)) nodeOwnsCard

/-- THE TIED CARD OF 'maundlaw31.NodeLasts'. -/
def nodeLastsCard : Claim7 := { stood := { row := nodeLastsRow, standIns := [], harness := (true, "913ce0c6ad0cf6257efffc9c9333f84abde7e894694dea340e26967f77a6898b"), looks := true }, kinds := [], alts := [], laidByText := true, laidKinds := [.data, .data, .data, .sentinel, .sentinel], laidTests := true, laidLooks := .later }
def NodeLastsCardSaid : Prop := Claim7.holds Tryz.pinned (.plain (OpenSpec.ofChange nodeLastsSpec)) nodeLastsCard

/-- THE SECOND FORM's CARD OF 'maundlaw31.NodeRefuses'. -/
def nodeRefusesUptoCard : Claim7 := { stood := { row := nodeRefusesUptoRow, standIns := [], harness := (true, "913ce0c6ad0cf6257efffc9c9333f84abde7e894694dea340e26967f77a6898b"), looks := true }, kinds := [], alts := [], laidByText := true, laidKinds := [.data, .data, .data, .sentinel, .sentinel], laidTests := true, laidLooks := .later }
def NodeRefusesUptoCardSaid : Prop := Claim7.holds Tryz.pinned (.plain (OpenSpec.upto nodeRefusesSpec)) nodeRefusesUptoCard

/-- THE SECOND FORM's CARD OF 'maundlaw31.NodePending'. -/
def nodePendingUptoCard : Claim7 := { stood := { row := nodePendingUptoRow, standIns := [], harness := (true, "913ce0c6ad0cf6257efffc9c9333f84abde7e894694dea340e26967f77a6898b"), looks := true }, kinds := [], alts := [], laidByText := true, laidKinds := [.data, .data, .data, .sentinel, .sentinel], laidTests := true, laidLooks := .later }
def NodePendingUptoCardSaid : Prop := Claim7.holds Tryz.pinned (.plain (OpenSpec.upto nodePendingSpec)) nodePendingUptoCard

/-- THE SECOND FORM's CARD OF 'maundlaw31.NodeOwns'. -/
def nodeOwnsUptoCard : Claim7 := { stood := { row := nodeOwnsUptoRow, standIns := [], harness := (true, "913ce0c6ad0cf6257efffc9c9333f84abde7e894694dea340e26967f77a6898b"), looks := true }, kinds := [], alts := [], laidByText := true, laidKinds := [.data, .data, .data, .sentinel, .sentinel], laidTests := true, laidLooks := .later }
def NodeOwnsUptoCardSaid : Prop := Claim7.holds Tryz.pinned (.plain (OpenSpec.upto nodeOwnsSpec)) nodeOwnsUptoCard

/-- THE SECOND FORM's CARD OF 'maundlaw31.NodeLasts'. -/
def nodeLastsUptoCard : Claim7 := { stood := { row := nodeLastsUptoRow, standIns := [], harness := (true, "913ce0c6ad0cf6257efffc9c9333f84abde7e894694dea340e26967f77a6898b"), looks := true }, kinds := [], alts := [], laidByText := true, laidKinds := [.data, .data, .data, .sentinel, .sentinel], laidTests := true, laidLooks := .later }
def NodeLastsUptoCardSaid : Prop := Claim7.holds Tryz.pinned (.plain (OpenSpec.upto nodeLastsSpec)) nodeLastsUptoCard
end Rows
end Go.Proofs.YtikipjbkjcefbaaGreatDoor
